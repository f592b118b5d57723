/- The reference's pools: a piece is handed out. -/
import Derived.Test.YtndojmpgadbefaaEpRQ
set_option linter.unusedVariables false
set_option linter.unusedSimpArgs false
namespace Go.Proofs.Ytndojmpgadbefaa
open Go Go.RowKit Hv
set_option maxRecDepth 20000
set_option maxHeartbeats 4000000
section
variable {H H' : Hp} {n n' p : Nat} {S : Nat → Prop} {d : PoolD} {N : RPN} {O : List Int}
theorem strZ (m : Nat) : strOfNums ((List.replicate m (0 : UInt8)).map fun b => (b.toNat : Int)) = ⟨(List.replicate m (0 : UInt8)).toArray⟩ := strOf_byL _
theorem ralloc_c (h : RPH H n S p N d O) {i c : Nat} {l : LandD} (hl : d.lands[i]? = some l) (ht : l.there = true) (hll : l.slabs.length < 4096) (hb : c ≤ 140737488355328) :
    HCalls Try.prog 46 [.ptr p 0, .lit (.int .i64 (i : Int)), .lit (.int .i64 (c : Int)), .lit (.int .i64 1)] H n (RPP H n S p (allocD d i l c).1 (.tup [(allocD d i l c).2.1, .lit (.int .i64 (allocD d i l c).2.2)])) := by
  refine hcallsC_of (rs := [.cell 8 54, .tmp 9]) ⟨[0, 1, 2, 3, 8, 9, 10, 11, 13, 17, 33, 52, 81, 88], [], [], [(9, [(0, [], []), (1, [], []), (2, [], []), (3, [], []), (4, [], []), (5, [], []), (6, [], []), (7, [], []), (8, [], []), (9, [], []), (10, [], []), (11, [], []), (12, [], []), (13, [], []), (14, [], []), (15, [], []), (16, [], []), (17, [], []), (18, [], []), (19, [], []), (20, [], []), (21, [], []), (22, [], []), (23, [], []), (24, [], []), (25, [], []), (26, [], [])]), (13, [(0, [], []), (1, [], []), (2, [], []), (3, [], []), (4, [], []), (5, [], []), (6, [], []), (7, [], []), (8, [], []), (9, [], []), (10, [], [9, 0, 1, 2, 3, 4, 5, 6, 7, 8])]), (16, [(0, [], []), (1, [], []), (2, [], []), (3, [], []), (4, [], []), (5, [], []), (6, [], []), (7, [], []), (8, [9], []), (9, [3], [8, 7, 6, 5]), (10, [], []), (11, [], []), (12, [], [11, 10, 0, 1, 2, 3, 4, 5, 6, 7, 8, 9])])], [15]⟩ TOk mixed Try.func46 rfl rfl (by kernel_rfl) (by kernel_rfl) rfl ?_
  have hpn : p < n := h.lt p h.Sp.1
  simp only [push_cast, Nat.reduceBEq, Nat.reduceAdd, Nat.reduceEqDiff, reduceCtorEq, Nat.reduceLeDiff, Nat.reduceSub, Nat.reduceMul, Nat.reduceLT, Int.reduceEq, Int.reduceLT, Int.reduceLE, Int.reduceBEq, Int.reduceBNe, Int.reduceToNat, Int.reduceNeg, Int.reduceSub, Int.reduceAdd]
  have hN := h.frame (H' := upd H n (some (.cells [.lit (.int .i64 0), .lit (.int .i64 0), .lit (.int .i64 0), .lit (.int .i64 0)]))) (n' := n + 1) (by omega) fun j hj => upd_other (by have := h.lt j hj; omega)
  have h1n : (upd H n (some (.cells [.lit (.int .i64 0), .lit (.int .i64 0), .lit (.int .i64 0), .lit (.int .i64 0)]))) n = some (.cells [.lit (.int .i64 0), .lit (.int .i64 0), .lit (.int .i64 0), .lit (.int .i64 0)]) := upd_same _ _ _
  have k1 : ∀ j, j < n → (upd H n (some (.cells [.lit (.int .i64 0), .lit (.int .i64 0), .lit (.int .i64 0), .lit (.int .i64 0)]))) j = H j := fun j hj => upd_other (by omega)
  generalize (upd H n (some (.cells [.lit (.int .i64 0), .lit (.int .i64 0), .lit (.int .i64 0), .lit (.int .i64 0)]))) = H1 at hN h1n k1 ⊢
  refine callH (rthere_c hN hl) ?_
  rintro _ H1 n1 ⟨rfl, rfl, rfl⟩
  have pl := hN.pl
  have c4 : (n == p) = false := nb (by omega)
  have c5 : (p == n) = false := nb (by omega)
  have hsame : ∀ (o : Option AO) (r : AV), RPP H n S p d r r (upd H1 n o) (n + 1) := fun o r => ⟨rfl, S, ⟨N, O, hN.frame (Nat.le_refl _) fun j hj => upd_other (by have := h.lt j hj; omega)⟩, by omega, fun j hj hs => ⟨by rw [upd_other (by omega)]; exact k1 j hj, hs⟩⟩
  obtain ⟨P1, hP1⟩ : ∃ b, decide ((c : Int) < 1) = b := ⟨_, rfl⟩
  obtain ⟨P2, hP2⟩ : ∃ b, decide (d.size < c) = b := ⟨_, rfl⟩
  cases P1 with
  | true =>
    have e : allocD d i l c = (d, hand0, 1) := by unfold allocD; rw [if_pos (.inl (by have := of_decide_eq_true hP1; omega))]
    rw [e]
    simp only [push_cast, Nat.reduceBEq, Nat.reduceAdd, Nat.reduceEqDiff, reduceCtorEq, Nat.reduceLeDiff, Nat.reduceSub, Nat.reduceMul, Nat.reduceLT, Int.reduceEq, Int.reduceLT, Int.reduceLE, Int.reduceBEq, Int.reduceBNe, Int.reduceToNat, Int.reduceNeg, Int.reduceSub, Int.reduceAdd, pl, h1n, hP1, c4, c5, ht]
    exact hsame _ _
  | false =>
    cases P2 with
    | true =>
      have e : allocD d i l c = (d, hand0, 1) := by unfold allocD; rw [if_pos (.inr (by have := of_decide_eq_true hP2; omega))]
      rw [e]
      simp only [push_cast, Nat.reduceBEq, Nat.reduceAdd, Nat.reduceEqDiff, reduceCtorEq, Nat.reduceLeDiff, Nat.reduceSub, Nat.reduceMul, Nat.reduceLT, Int.reduceEq, Int.reduceLT, Int.reduceLE, Int.reduceBEq, Int.reduceBNe, Int.reduceToNat, Int.reduceNeg, Int.reduceSub, Int.reduceAdd, pl, h1n, hP1, hP2, c4, c5, ht]
      exact hsame _ _
    | false =>
      have c1 := of_decide_eq_false hP1
      have c2 := of_decide_eq_false hP2
      have hsz := h.ok.sz
      obtain ⟨o1, o2, o3, o4, _⟩ := h.ok.ls l (List.mem_of_getElem? hl)
      obtain ⟨v, hv, hlv, hi, hd⟩ := hN.at hl
      obtain ⟨r0, r1, r2, r3⟩ := drops (AV.lit (.int .i64 (d.size : Int))) (.rw N.gb 1 0 d.slabs.length) (.rw N.go 1 0 d.slabs.length) hd
      simp only [push_cast, Nat.reduceBEq, Nat.reduceAdd, Nat.reduceEqDiff, reduceCtorEq, Nat.reduceLeDiff, Nat.reduceSub, Nat.reduceMul, Nat.reduceLT, Int.reduceEq, Int.reduceLT, Int.reduceLE, Int.reduceBEq, Int.reduceBNe, Int.reduceToNat, Int.reduceNeg, Int.reduceSub, Int.reduceAdd, pl, h1n, hP1, hP2, c4, c5, ht]
      refine callH aligned_1 ?_
      rintro r H2 n2 ⟨hr, hH, hn⟩
      rw [hr, hH, hn]
      have hi' : (i : Int) < 256 := by omega
      simp only [push_cast, Nat.reduceBEq, Nat.reduceAdd, Nat.reduceEqDiff, reduceCtorEq, Nat.reduceLeDiff, Nat.reduceSub, Nat.reduceMul, Nat.reduceLT, Int.reduceEq, Int.reduceLT, Int.reduceLE, Int.reduceBEq, Int.reduceBNe, Int.reduceToNat, Int.reduceNeg, Int.reduceSub, Int.reduceAdd, pl, r0, r1, r2, r3, hi']
      obtain ⟨X, hX⟩ : ∃ X, l.slabs.length * d.size = X := ⟨_, rfl⟩
      have hXb : X ≤ 4096 * 65536 := by rw [← hX]; exact Nat.mul_le_mul o1 hsz.2
      have hX1 : (l.slabs.length - 1) * d.size = X - d.size := by rw [Nat.sub_mul, hX, Nat.one_mul]
      obtain ⟨y, hy⟩ : ∃ y : Nat, (l.fill : Int).tmod (d.size : Int) = (y : Int) ∧ l.fill % d.size = y := ⟨l.fill % d.size, (Int.ofNat_tmod _ _).symm, rfl⟩
      have hylt : y < d.size := by rw [← hy.2]; exact Nat.mod_lt _ (Nat.lt_of_lt_of_le (by decide) hsz.1)
      have hym : (y : Int).tmod 1 = 0 := by rw [Int.tmod_one]
      have gne : ¬ (d.size : Int) = 0 := by omega
      have wX : IntKind.i64.wrap ((l.slabs.length : Int) * (d.size : Int)) = (X : Int) := by rw [← Int.natCast_mul, hX]; exact IntWalk.i64_in _ (by omega)
      have wy : IntKind.i64.wrap (y : Int) = (y : Int) := IntWalk.i64_in _ (by omega)
      have w0 : IntKind.i64.wrap 0 = 0 := by rfl
      have wyc : IntKind.i64.wrap ((y : Int) + (c : Int)) = (y : Int) + (c : Int) := IntWalk.i64_in _ (by omega)
      have hmod : l.fill < X → d.size ≤ X ∧ y = l.fill - (X - d.size) := fun hlt => by
        have hz : l.slabs.length ≠ 0 := fun e => by rw [e, Nat.zero_mul] at hX; omega
        obtain ⟨m, hm⟩ : ∃ m, l.slabs.length = m + 1 := ⟨l.slabs.length - 1, by omega⟩
        have e1 : X = m * d.size + d.size := by rw [← hX, hm, Nat.succ_mul]
        obtain ⟨I, hI⟩ : ∃ I, l.fill = m * d.size + I := ⟨l.fill - m * d.size, by omega⟩
        have : l.fill % d.size = I := by rw [hI, Nat.mul_comm, Nat.mul_add_mod]; exact Nat.mod_eq_of_lt (by omega)
        omega
      refine loopK (fun q s => s = ⟨[(0, .ptr p 0), (1, .lit (.int .i64 (i : Int))), (2, .lit (.int .i64 (c : Int))), (3, .lit (.int .i64 1)), (8, .ptr n 0), (10, .ptr p (3 + i * 4)), (11, .lit (.int .i64 (l.fill : Int)))], H1, n + 1⟩) 0 [0, 1, 2, 3, 8, 10, 11] rfl ?_
      rintro q _ rfl
      by_cases hfit : l.fill + c ≤ X
      · have e : allocD d i l c = (d.filled i l (l.fill + c), handA i l.gen l.fill c, 0) := by
          unfold allocD
          rw [if_neg (by omega), if_pos (by rw [hX]; exact hfit)]
        rw [e]
        have hm := hmod (by omega)
        have g1 : ¬ (l.fill : Int) ≥ (X : Int) := by omega
        have g2 : ¬ (y : Int) + (c : Int) > (d.size : Int) := by omega
        have g1' : ¬ X ≤ l.fill := by omega
        have g2' : ¬ (d.size : Int) < (y : Int) + (c : Int) := by omega
        have wf : IntKind.i64.wrap ((l.fill : Int) + (c : Int)) = (l.fill : Int) + (c : Int) := IntWalk.i64_in _ (by omega)
        have hlen : 3 + i * 4 + 1 ≤ (landsC d.lands N.gl).length := by rw [landsC_len (h.ok.ll.trans h.gl.symm), h.ok.ll]; omega
        have hst := store3 (l' := ⟨l.there, l.gen, l.slabs, l.fill + c⟩) hl hv (f := .lit (.int .i64 ((l.fill : Int) + (c : Int)))) rfl
        rcases hlv with ⟨q1, q2⟩ | ⟨g, q1, q2, q3, q4⟩
        · rw [q2, List.length_nil, Nat.zero_mul] at hX
          omega
        · subst q1
          have hl2 : (d.lands.set i ⟨l.there, l.gen, l.slabs, l.fill + c⟩)[i]? = some ⟨l.there, l.gen, l.slabs, l.fill + c⟩ := List.getElem?_set_self (List.getElem?_eq_some_iff.1 hl).1
          obtain ⟨t0, t1, t2, t3⟩ := drops (AV.lit (.int .i64 (d.size : Int))) (.rw N.gb 1 0 d.slabs.length) (.rw N.go 1 0 d.slabs.length) (landsC_drop hl2 hv)
          simp only [push_cast, Nat.reduceBEq, Nat.reduceAdd, Nat.reduceEqDiff, reduceCtorEq, Nat.reduceLeDiff, Nat.reduceSub, Nat.reduceMul, Nat.reduceLT, Int.reduceEq, Int.reduceLT, Int.reduceLE, Int.reduceBEq, Int.reduceBNe, Int.reduceToNat, Int.reduceNeg, Int.reduceSub, Int.reduceAdd, pl, r0, r1, r2, r3, hy.1, hym, gne, wX, wy, w0, wyc, g1, g2, g1', g2', wf, c4, c5, hlen, hst, h1n, t0, t1, t2, t3]
          refine ⟨rfl, S, ⟨N, O, (hN.refill (H' := upd H1 p (some (.cells (.lit (.int .i64 (d.size : Int)) :: .rw N.gb 1 0 d.slabs.length :: .rw N.go 1 0 d.slabs.length :: landsC (d.lands.set i ⟨l.there, l.gen, l.slabs, l.fill + c⟩) N.gl)))) (f := l.fill + c) hl hv (Nat.le_refl _) ⟨by rw [hX]; exact hfit, by omega⟩ (upd_same _ _ _) (fun j hj hne => upd_other (Ne.symm hne))).frame (Nat.le_refl _) fun j hj => upd_other (by have := h.lt j hj; omega)⟩, by omega, fun j hj hs => ⟨?_, hs⟩⟩
          rw [upd_other (by omega), upd_other (fun e : p = j => hs (by rw [← e]; exact h.Sp.1))]
          exact k1 j hj
      · have hcd : (l.fill : Int) ≥ (X : Int) ∨ (¬ (l.fill : Int) ≥ (X : Int) ∧ (y : Int) + (c : Int) > (d.size : Int)) := by
          by_cases hlt : l.fill < X
          · have hm := hmod hlt
            exact .inr ⟨by omega, by omega⟩
          · exact .inl (by omega)
        have hva : (v = nilV ∧ l.slabs.length = 0) ∨ ∃ g, v = .rw g 1 0 l.slabs.length := by
          rcases hlv with ⟨q1, q2⟩ | ⟨g, q1, _, _, q2⟩
          · exact .inl ⟨q1, by rw [q2]; rfl⟩
          · exact .inr ⟨g, q1⟩
        have hcd : (∃ q : (l.fill : Int) ≥ (X : Int), X ≤ l.fill) ∨ (∃ q : ¬ (l.fill : Int) ≥ (X : Int), ¬ X ≤ l.fill ∧ (y : Int) + (c : Int) > (d.size : Int) ∧ (d.size : Int) < (y : Int) + (c : Int) ∧ l.slabs.length ≠ 0) := by
          rcases hcd with q | ⟨q1, q2⟩
          · exact .inl ⟨q, by omega⟩
          · refine .inr ⟨q1, by omega, q2, q2, fun e => ?_⟩
            rw [e, Nat.zero_mul] at hX
            omega
        have w0X : l.slabs.length = 0 → IntKind.i64.wrap (0 * (d.size : Int)) = (X : Int) := fun e => by rw [← wX, e]; rfl
        refine' meetG (fun meet => _) _
        rotate_left
        · rcases hcd with ⟨g1, g1'⟩ | ⟨g1, g1', g2, g2', hne⟩
          · rcases hva with ⟨hv0, hl0⟩ | ⟨g, hv0⟩
            · subst hv0
              unfold nilV at r0 r1 r2
              have wX := w0X hl0
              simp only [push_cast, Nat.reduceBEq, Nat.reduceAdd, Nat.reduceEqDiff, reduceCtorEq, Nat.reduceLeDiff, Nat.reduceSub, Nat.reduceMul, Nat.reduceLT, Int.reduceEq, Int.reduceLT, Int.reduceLE, Int.reduceBEq, Int.reduceBNe, Int.reduceToNat, Int.reduceNeg, Int.reduceSub, Int.reduceAdd, pl, r0, r1, r2, r3, hy.1, hym, gne, wX, wy, w0, wyc, g1, g1', c4, c5]
              exact meet
            · subst hv0
              simp only [push_cast, Nat.reduceBEq, Nat.reduceAdd, Nat.reduceEqDiff, reduceCtorEq, Nat.reduceLeDiff, Nat.reduceSub, Nat.reduceMul, Nat.reduceLT, Int.reduceEq, Int.reduceLT, Int.reduceLE, Int.reduceBEq, Int.reduceBNe, Int.reduceToNat, Int.reduceNeg, Int.reduceSub, Int.reduceAdd, pl, r0, r1, r2, r3, hy.1, hym, gne, wX, wy, w0, wyc, g1, g1', c4, c5]
              exact meet
          · rcases hva with ⟨hv0, hl0⟩ | ⟨g, hv0⟩
            · exact absurd hl0 hne
            · subst hv0
              simp only [push_cast, Nat.reduceBEq, Nat.reduceAdd, Nat.reduceEqDiff, reduceCtorEq, Nat.reduceLeDiff, Nat.reduceSub, Nat.reduceMul, Nat.reduceLT, Int.reduceEq, Int.reduceLT, Int.reduceLE, Int.reduceBEq, Int.reduceBNe, Int.reduceToNat, Int.reduceNeg, Int.reduceSub, Int.reduceAdd, pl, r0, r1, r2, r3, hy.1, hym, gne, wX, wy, w0, wyc, g1, g1', g2, g2', c4, c5]
              exact meet
        · refine callH (ridle_c hN) ?_
          rintro _ H2 n2 ⟨⟨z, rfl, hz⟩, hH, hn⟩
          rw [hH, hn]
          rcases hz with ⟨hz1, rfl⟩ | ⟨s, hz1, rfl⟩
          · have e : allocD d i l c = (d, hand0, 5) := by
              unfold allocD
              rw [if_neg (by omega), if_neg (by rw [hX]; exact hfit), hz1]
            rw [e]
            simp only [push_cast, Nat.reduceBEq, Nat.reduceAdd, Nat.reduceEqDiff, reduceCtorEq, Nat.reduceLeDiff, Nat.reduceSub, Nat.reduceMul, Nat.reduceLT, Int.reduceEq, Int.reduceLT, Int.reduceLE, Int.reduceBEq, Int.reduceBNe, Int.reduceToNat, Int.reduceNeg, Int.reduceSub, Int.reduceAdd, h1n, c4, c5, show (-1 : Int) < 0 by decide]
            exact hsame _ _
          · have e : allocD d i l c = ((d.grown i l s).filled i ⟨l.there, l.gen, l.slabs ++ [s], 0⟩ (l.slabs.length * d.size + c), handA i l.gen (l.slabs.length * d.size) c, 0) := by
              unfold allocD
              rw [if_neg (by omega), if_neg (by rw [hX]; exact hfit), hz1]
            rw [e, hX]
            have hs := firstIdle_some hz1
            have hst := (List.getElem?_eq_some_iff.1 hs.1).1
            have hsk : s < d.slabs.length := by rw [← h.ok.tl]; exact hst
            have hsk' : (s : Int) < (d.slabs.length : Int) := by omega
            have hs0 : ¬ (s : Int) < 0 := by omega
            obtain ⟨m1, m2, m3⟩ := hN.nes
            have go := hN.go
            have gb := hN.gb
            have hgon := h.lt _ h.Sp.2.2
            have hgbn := h.lt _ h.Sp.2.1
            obtain ⟨y0, hy0⟩ : ∃ y0, O[s]? = some y0 := ⟨_, List.getElem?_eq_getElem (by rw [h.ol]; exact hst)⟩
            obtain ⟨b0, hb0⟩ : ∃ b0, d.slabs[s]? = some b0 := ⟨_, List.getElem?_eq_getElem hsk⟩
            have hoy : (O.map intI)[s]? = some [.lit (.int .i64 y0)] := by rw [List.getElem?_map, hy0]; rfl
            have hby : (d.slabs.map slabT)[s]? = some [.lit (.string ⟨b0.toArray⟩)] := by rw [List.getElem?_map, hb0]; rfl
            have hlen : 3 + i * 4 ≤ (landsC d.lands N.gl).length := by rw [landsC_len (h.ok.ll.trans h.gl.symm), h.ok.ll]; omega
            have c6 : (n + 1 == p) = false := nb (by omega)
            have c7 : (n + 1 + 1 == p) = false := nb (by omega)
            have hst2 : ∀ v', _ := fun v' => by
              have q := store2 (v' := v') (.rw N.go 1 0 d.slabs.length) hl hv
              rw [r3] at q
              exact q
            have w0X := fun q => w0X q
            refine' meetG (fun meet => _) _
            rotate_left
            · rcases hva with ⟨hv0, hl0⟩ | ⟨g, hv0⟩
              · subst hv0
                have wX := w0X hl0
                unfold nilV at r0 r1 r2
                simp only [push_cast, Nat.reduceBEq, Nat.reduceAdd, Nat.reduceEqDiff, reduceCtorEq, Nat.reduceLeDiff, Nat.reduceSub, Nat.reduceMul, Nat.reduceLT, Int.reduceEq, Int.reduceLT, Int.reduceLE, Int.reduceBEq, Int.reduceBNe, Int.reduceToNat, Int.reduceNeg, Int.reduceSub, Int.reduceAdd, pl, r0, r1, r2, r3, hs0, h1n, c4, c5, wX, gne]
                exact meet
              · subst hv0
                simp only [push_cast, Nat.reduceBEq, Nat.reduceAdd, Nat.reduceEqDiff, reduceCtorEq, Nat.reduceLeDiff, Nat.reduceSub, Nat.reduceMul, Nat.reduceLT, Int.reduceEq, Int.reduceLT, Int.reduceLE, Int.reduceBEq, Int.reduceBNe, Int.reduceToNat, Int.reduceNeg, Int.reduceSub, Int.reduceAdd, pl, r0, r1, r2, r3, hs0, h1n, c4, c5, wX, gne]
                exact meet
            · refine cutK (fun s' => ∃ (H5 : Hp) (m : Nat), s' = ⟨[(0, .ptr p 0), (1, .lit (.int .i64 (i : Int))), (2, .lit (.int .i64 (c : Int))), (8, .ptr n 0), (10, .ptr p (3 + i * 4)), (11, .lit (.int .i64 (X : Int))), (13, .lit (.int .i64 (s : Int)))], H5, m + 1⟩ ∧ H5 p = some (.cells (.lit (.int .i64 (d.size : Int)) :: .rw N.gb 1 0 d.slabs.length :: .rw N.go 1 0 d.slabs.length :: landsC d.lands (N.gl.set i (.rw m 1 0 (l.slabs.length + 1))))) ∧
                  H5 m = some (.row false 3 ((l.slabs ++ [s]).map natI)) ∧ n + 1 ≤ m ∧ ∀ j, j < n + 1 → j ≠ p → (∀ g, v = .rw g 1 0 l.slabs.length → j ≠ g) → H5 j = H1 j) [0, 1, 2, 8, 10, 11, 13] ?_ ?_
              · rcases hva with ⟨hv0, hl0⟩ | ⟨g, hv0⟩
                · subst hv0
                  unfold nilV at r0 r1 r2
                  simp only [push_cast, Nat.reduceBEq, Nat.reduceAdd, Nat.reduceEqDiff, reduceCtorEq, Nat.reduceLeDiff, Nat.reduceSub, Nat.reduceMul, Nat.reduceLT, Int.reduceEq, Int.reduceLT, Int.reduceLE, Int.reduceBEq, Int.reduceBNe, Int.reduceToNat, Int.reduceNeg, Int.reduceSub, Int.reduceAdd, pl, r0, r1, r2, r3, c6, c7, hlen, hst2]
                  refine ⟨_, n + 1 + 1, rfl, by rw [upd_same, hl0], by rw [upd_other (by omega), upd_same, List.length_eq_zero_iff.1 hl0]; rfl, by omega, fun j hj hjp hjg => ?_⟩
                  rw [upd_other (Ne.symm hjp), upd_other (by omega), upd_other (by omega)]
                · subst hv0
                  rcases hlv with ⟨q1, q2⟩ | ⟨g', q1, q2, q3, q4⟩
                  · cases q1
                  injection q1 with q1
                  subst q1
                  have hgn := h.lt g q3
                  obtain ⟨f1, f2, f3⟩ := hN.nesG q2
                  have f4 := nb f1
                  have f5 := nb (Ne.symm f1)
                  have f6 : (n + 1 == g) = false := nb (by omega)
                  have f7 : (g == n + 1) = false := nb (by omega)
                  have q5 : (l.slabs.length + 1) * 8 ≤ 140737488355328 := by omega
                  simp only [push_cast, Nat.reduceBEq, Nat.reduceAdd, Nat.reduceEqDiff, reduceCtorEq, Nat.reduceLeDiff, Nat.reduceSub, Nat.reduceMul, Nat.reduceLT, Int.reduceEq, Int.reduceLT, Int.reduceLE, Int.reduceBEq, Int.reduceBNe, Int.reduceToNat, Int.reduceNeg, Int.reduceSub, Int.reduceAdd, pl, r0, r1, r2, r3, c6, c7, hlen, hst2, q2, q5, f4, f5, f6, f7]
                  refine ⟨_, n + 1 + 1, rfl, by rw [upd_same], by rw [upd_other (by omega), upd_same, List.map_append]; rfl, by omega, fun j hj hjp hjg => ?_⟩
                  rw [upd_other (Ne.symm hjp), upd_other (by omega), upd_other (Ne.symm (hjg g rfl)), upd_other (by omega)]
              · rintro _ ⟨H5, m, rfl, hp5, hm5, hmn, k5⟩
                have hv2 : (N.gl.set i (.rw m 1 0 (l.slabs.length + 1)))[i]? = some (.rw m 1 0 (l.slabs.length + 1)) := List.getElem?_set_self (List.getElem?_eq_some_iff.1 hv).1
                obtain ⟨t0, t1, t2, t3⟩ := drops (AV.lit (.int .i64 (d.size : Int))) (.rw N.gb 1 0 d.slabs.length) (.rw N.go 1 0 d.slabs.length) (landsC_drop hl hv2)
                have vgo : ∀ g, v = .rw g 1 0 l.slabs.length → N.go ≠ g ∧ N.gb ≠ g := fun g e => by
                  rcases hlv with ⟨q1, q2⟩ | ⟨g', q1, q2, q3, q4⟩
                  · rw [q1] at e; cases e
                  · rw [q1] at e
                    injection e with e
                    subst e
                    obtain ⟨_, f2, f3⟩ := hN.nesG q2
                    exact ⟨Ne.symm f3, Ne.symm f2⟩
                have go5 : H5 N.go = some (.row true 3 (O.map intI)) := (k5 N.go (by omega) m1 fun g e => (vgo g e).1).trans go
                have gb5 : H5 N.gb = some (.row true 9 (d.slabs.map slabT)) := (k5 N.gb (by omega) m3 fun g e => (vgo g e).2).trans gb
                have hn5 : H5 n = some (.cells [.lit (.int .i64 0), .lit (.int .i64 0), .lit (.int .i64 0), .lit (.int .i64 0)]) := (k5 n (by omega) (by omega) fun g e => by
                  rcases hlv with ⟨q1, q2⟩ | ⟨g', q1, q2, q3, q4⟩
                  · rw [q1] at e; cases e
                  · rw [q1] at e
                    injection e with e
                    subst e
                    have := h.lt g' q3
                    omega).trans h1n
                have e1 : (N.go == N.gb) = false := nb m2
                have e2 : (N.gb == N.go) = false := nb (Ne.symm m2)
                have e3 : (N.go == p) = false := nb m1
                have e4 : (N.gb == p) = false := nb m3
                have e5 : (p == N.go) = false := nb (Ne.symm m1)
                have e6 : (p == N.gb) = false := nb (Ne.symm m3)
                have e7 : (m + 1 == N.go) = false := nb (by omega)
                have e8 : (m + 1 == N.gb) = false := nb (by omega)
                have e9 : (m + 1 == p) = false := nb (by omega)
                have e10 : (m + 1 == n) = false := nb (by omega)
                have e11 : (N.go == m + 1) = false := nb (by omega)
                have e12 : (N.gb == m + 1) = false := nb (by omega)
                have e13 : (N.go == n) = false := nb (by omega)
                have e14 : (N.gb == n) = false := nb (by omega)
                have q7 : (d.size : Int) ≤ 140737488355328 := by omega
                have q8 : 1 * (d.size : Int) ≤ 140737488355328 := by omega
                have wXc : IntKind.i64.wrap ((X : Int) + (c : Int)) = (X : Int) + (c : Int) := IntWalk.i64_in _ (by omega)
                obtain ⟨Z0, hZ0⟩ : ∃ Z0, List.replicate d.size (0 : UInt8) = Z0 := ⟨_, rfl⟩
                have hZl : Z0.length = d.size := by rw [← hZ0, List.length_replicate]
                have hrep : List.replicate d.size [AV.lit (.int .u8 0)] = byL Z0 := by rw [← hZ0]; unfold byL; rw [List.map_replicate]; rfl
                have htk : List.take d.size (byL Z0) = byL Z0 := List.take_of_length_le (by rw [byL_len, hZl]; exact Nat.le_refl _)
                have hbz : Nat.ble d.size d.size = true := Nat.ble_self_eq_true _
                have hlenT : 3 + i * 4 + 1 ≤ (landsC d.lands (N.gl.set i (.rw m 1 0 (l.slabs.length + 1)))).length := by rw [landsC_len (by rw [List.length_set]; exact h.ok.ll.trans h.gl.symm), h.ok.ll]; omega
                have hstT := store3 (l' := ⟨l.there, l.gen, l.slabs ++ [s], X + c⟩) hl hv2 (f := .lit (.int .i64 ((X : Int) + (c : Int)))) rfl
                have hl2 : (d.lands.set i ⟨l.there, l.gen, l.slabs ++ [s], X + c⟩)[i]? = some ⟨l.there, l.gen, l.slabs ++ [s], X + c⟩ := List.getElem?_set_self (List.getElem?_eq_some_iff.1 hl).1
                obtain ⟨u0, u1, u2, u3⟩ := drops (AV.lit (.int .i64 (d.size : Int))) (.rw N.gb 1 0 d.slabs.length) (.rw N.go 1 0 d.slabs.length) (landsC_drop hl2 hv2)
                simp only [push_cast, Nat.reduceBEq, Nat.reduceAdd, Nat.reduceEqDiff, reduceCtorEq, Nat.reduceLeDiff, Nat.reduceSub, Nat.reduceMul, Nat.reduceLT, Int.reduceEq, Int.reduceLT, Int.reduceLE, Int.reduceBEq, Int.reduceBNe, Int.reduceToNat, Int.reduceNeg, Int.reduceSub, Int.reduceAdd, go5, gb5, hn5, hp5, t0, t1, t2, t3, u0, u1, u2, u3, e1, e2, e3, e4, e5, e6, e7, e8, e9, e10, e11, e12, e13, e14, q7, q8, hsk', hoy, hby, wXc, c4, c5, hrep, htk, hbz, hZl, byL_len, bytesOf_byL, strOf_byL, hlenT, hstT]
                have eO : (O.map intI).set s [.lit (.int .i64 (i : Int))] = (O.set s (i : Int)).map intI := by rw [List.map_set]; rfl
                have eB : (d.slabs.map slabT).set s [.lit (.string ⟨Z0.toArray⟩)] = (d.slabs.set s Z0).map slabT := by rw [List.map_set]; rfl
                rw [eO, eB]
                have hT := hN.took (n' := n + 1) (H' := upd (upd H1 N.go (some (.row true 3 ((O.set s (i : Int)).map intI)))) N.gb (some (.row true 9 ((d.slabs.set s Z0).map slabT)))) (s := s) hsk (c := Z0) (b := true) (z := (i : Int)) ⟨fun q => by omega, fun q => by cases q⟩ hZl (Nat.le_refl _) (by rw [upd_other (Ne.symm m2), upd_same]) (upd_same _ _ _) (fun j _ q1 q2 => by rw [upd_other (Ne.symm q2), upd_other (Ne.symm q1)])
                have hX2 : (l.slabs.length + 1) * d.size = X + d.size := by rw [Nat.succ_mul, hX]
                have kF : ∀ (o1 o2 o3 o4 o5 : Option AO) (j : Nat), j < n + 1 → j ≠ n → j ≠ p → j ≠ N.go → j ≠ N.gb → upd (upd (upd (upd (upd H5 N.go o1) (m + 1) o2) N.gb o3) p o4) n o5 j = H5 j := fun o1 o2 o3 o4 o5 j h1 h2 h3 h4 h5 => by
                  rw [upd_other (Ne.symm h2), upd_other (Ne.symm h3), upd_other (Ne.symm h5), upd_other (by omega), upd_other (Ne.symm h4)]
                have hS : ∀ j, S j → j < n := h.lt
                have hTn : RPH (upd (upd H1 N.go (some (.row true 3 ((O.set s (i : Int)).map intI)))) N.gb (some (.row true 9 ((d.slabs.set s Z0).map slabT)))) n S p N ⟨d.size, d.slabs.set s Z0, d.taken.set s true, d.lands⟩ (O.set s (i : Int)) :=
                  ⟨hT.pl, hT.gb, hT.go, hT.ol, hT.ow, hT.gl, hT.ln, hT.gd, hT.Sp, hS, hT.ok⟩
                have hG := hTn.grew (n' := m + 1 + 1) (m := m) (s := s) (f := X + c) (H' := upd (upd (upd (upd (upd H5 N.go (some (.row true 3 ((O.set s (i : Int)).map intI)))) (m + 1) (some (.row false 5 (byL Z0)))) N.gb (some (.row true 9 ((d.slabs.set s Z0).map slabT)))) p (some (.cells (.lit (.int .i64 (d.size : Int)) :: .rw N.gb 1 0 d.slabs.length :: .rw N.go 1 0 d.slabs.length :: landsC (d.lands.set i ⟨l.there, l.gen, l.slabs ++ [s], X + c⟩) (N.gl.set i (.rw m 1 0 (l.slabs.length + 1))))))) n (some (.cells [.lit (.int .i64 (i : Int)), .lit (.int .i64 (l.gen : Int)), .lit (.int .i64 (X : Int)), .lit (.int .i64 (c : Int))])))
                  hl hv ht hll (by show s < (d.slabs.set s Z0).length; rw [List.length_set]; exact hsk) (by omega) (by omega) ⟨by show X + c ≤ (l.slabs.length + 1) * d.size; omega, by show l.slabs.length * d.size ≤ X + c; omega⟩
                  (by rw [upd_other (by omega), upd_same]; simp only [List.length_set]) (by rw [upd_other (by omega), upd_other (by omega), upd_other (by omega), upd_other (by omega), upd_other (by omega)]; exact hm5) (fun j hj hjp hjg => by
                    by_cases h1 : j = N.go
                    · rw [h1, upd_other (by omega), upd_other (Ne.symm m1), upd_other (Ne.symm m2), upd_other (by omega), upd_same, upd_other (Ne.symm m2), upd_same]
                    · by_cases h2 : j = N.gb
                      · rw [h2, upd_other (by omega), upd_other (Ne.symm m3), upd_same, upd_same]
                      · rw [kF _ _ _ _ _ j (by omega) (by omega) hjp h1 h2, upd_other (Ne.symm h2), upd_other (Ne.symm h1)]
                        exact k5 j (by omega) hjp hjg)
                have e : (d.grown i l s).filled i ⟨l.there, l.gen, l.slabs ++ [s], 0⟩ (X + c) = ⟨d.size, d.slabs.set s Z0, d.taken.set s true, d.lands.set i ⟨l.there, l.gen, l.slabs ++ [s], X + c⟩⟩ := by
                  unfold PoolD.grown PoolD.filled
                  rw [hZ0]
                  show (⟨d.size, _, _, (d.lands.set i _).set i _⟩ : PoolD) = _
                  rw [List.set_set]
                rw [e]
                refine ⟨rfl, _, ⟨_, _, hG⟩, by omega, fun j hj hs => ⟨?_, ?_⟩⟩
                · rw [kF _ _ _ _ _ j (by omega) (by omega) (fun q => hs (by rw [q]; exact h.Sp.1)) (fun q => hs (by rw [q]; exact h.Sp.2.2)) (fun q => hs (by rw [q]; exact h.Sp.2.1)), k5 j (by omega) (fun q => hs (by rw [q]; exact h.Sp.1)) (fun g e q => ?_)]
                  · exact k1 j hj
                  · rcases hlv with ⟨q1, q2⟩ | ⟨g', q1, q2, q3, q4⟩
                    · rw [q1] at e; cases e
                    · rw [q1] at e
                      injection e with e
                      subst e
                      exact hs (by rw [q]; exact q3)
                · rintro (q | q)
                  · exact hs q
                  · omega
end
end Go.Proofs.Ytndojmpgadbefaa
