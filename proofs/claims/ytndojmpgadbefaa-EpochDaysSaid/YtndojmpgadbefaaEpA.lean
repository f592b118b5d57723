/- Pools: a piece of a region; by the walk over a heap. -/
import Derived.Test.YtndojmpgadbefaaEpG
set_option linter.unusedVariables false
set_option linter.unusedSimpArgs false
namespace Go.Proofs.Ytndojmpgadbefaa
open Go Go.RowKit Hv
set_option maxRecDepth 20000
set_option maxHeartbeats 4000000
def handA (r g o n : Nat) : AV := .agg [.lit (.int .i64 (r : Int)), .lit (.int .i64 (g : Int)), .lit (.int .i64 (o : Int)), .lit (.int .i64 (n : Int))]
def hand0 : AV := .agg [.lit (.int .i64 0), .lit (.int .i64 0), .lit (.int .i64 0), .lit (.int .i64 0)]
/-- So much is handed out of a region. -/
def PoolD.filled (d : PoolD) (i : Nat) (l : LandD) (f : Nat) : PoolD := ⟨d.size, d.slabs, d.taken, d.lands.set i ⟨l.there, l.gen, l.slabs, f⟩⟩
def firstIdle (t : List Bool) : Option Nat := t.findIdx? fun b => !b
def allocD (d : PoolD) (i : Nat) (l : LandD) (c : Nat) : PoolD × AV × Int :=
  if c < 1 ∨ d.size < c then (d, hand0, 1)
  else if l.fill + c ≤ l.slabs.length * d.size then (d.filled i l (l.fill + c), handA i l.gen l.fill c, 0)
  else match firstIdle d.taken with
    | none => (d, hand0, 5)
    | some s => ((d.grown i l s).filled i ⟨l.there, l.gen, l.slabs ++ [s], 0⟩ (l.slabs.length * d.size + c), handA i l.gen (l.slabs.length * d.size) c, 0)
theorem andNot0 {x : Nat} (hx : x < 4611686018427387904) : IntKind.i64.wrap (((BitVec.ofInt IntKind.i64.bits (x : Int)) &&& ~~~(BitVec.ofInt IntKind.i64.bits 0)).toNat : Int) = (x : Int) := by
  have e : ((BitVec.ofInt IntKind.i64.bits (x : Int)) &&& ~~~(BitVec.ofInt IntKind.i64.bits 0)) = BitVec.ofInt IntKind.i64.bits (x : Int) := by
    rw [show BitVec.ofInt IntKind.i64.bits 0 = 0#(IntKind.i64.bits) from BitVec.ofInt_ofNat _ 0]
    simp
  rw [e]
  have : (BitVec.ofInt IntKind.i64.bits (x : Int)).toNat = x := by
    rw [BitVec.ofInt_natCast, BitVec.toNat_ofNat]
    exact Nat.mod_eq_of_lt (by show x < 2 ^ 64; omega)
  rw [this]
  exact IntWalk.i64_in _ (by omega)
section
variable {H H' : Hp} {n n' p : Nat} {S : Nat → Prop} {d : PoolD} {N : PoolN}
theorem firstIdle_some {t : List Bool} {s : Nat} (h : firstIdle t = some s) : t[s]? = some false ∧ ∀ j, j < s → t[j]? = some true := by
  obtain ⟨hl, h1, h2⟩ := List.findIdx?_eq_some_iff_getElem.1 h
  refine ⟨by rw [List.getElem?_eq_getElem hl]; simpa using h1, fun j hj => ?_⟩
  have := h2 j hj
  rw [List.getElem?_eq_getElem (by omega)]
  simpa using this
theorem firstIdle_none {t : List Bool} (h : firstIdle t = none) : ∀ x ∈ t, x = true := fun x hx => by
  have := List.findIdx?_eq_none_iff.1 h x hx
  simpa using this
theorem grow_none (h : PoolH H n S p N d) (q : AV) (hb : ∀ x ∈ d.taken, x = true) :
    HCalls Try.prog 57 [.ptr p 0, q] H n fun r H' n' => r = .lit (.bool false) ∧ H' = H ∧ n' = n := by
  refine hcallsC_of (rs := [.tmp 4]) ⟨[0, 1, 4, 5, 12], [], [], [(6, [(0, [], []), (1, [], []), (2, [], []), (3, [], []), (4, [], []), (5, [], []), (6, [], []), (7, [], []), (8, [], []), (9, [], []), (10, [], []), (11, [], []), (12, [], []), (13, [], [12, 10, 0, 1, 2, 3, 4, 5, 6, 7, 8, 9, 11])])], []⟩ TOk mixed Try.func57 rfl rfl (by kernel_rfl) (by kernel_rfl) rfl ?_
  have pl := h.pl
  have hk4 := h.ok.k
  simp only [push_cast, Nat.reduceBEq, Nat.reduceAdd, Nat.reduceEqDiff, reduceCtorEq, Nat.reduceLeDiff, Nat.reduceSub, Nat.reduceMul, Nat.reduceLT, Int.reduceEq, Int.reduceLT, Int.reduceLE, Int.reduceBEq, Int.reduceBNe, Int.reduceToNat, Int.reduceNeg, Int.reduceSub, Int.reduceAdd, pl]
  refine callH (index_no h.gt h.ok.tl (by omega) hb) ?_
  rintro _ H n ⟨rfl, rfl, rfl⟩
  simp only [push_cast, Nat.reduceBEq, Nat.reduceAdd, Nat.reduceEqDiff, reduceCtorEq, Nat.reduceLeDiff, Nat.reduceSub, Nat.reduceMul, Nat.reduceLT, Int.reduceEq, Int.reduceLT, Int.reduceLE, Int.reduceBEq, Int.reduceBNe, Int.reduceToNat, Int.reduceNeg, Int.reduceSub, Int.reduceAdd]
/-- A region is filled up to another place. -/
theorem PoolH.refill (h : PoolH H n S p N d) {i f : Nat} {l : LandD} {v : AV} (hl : d.lands[i]? = some l) (hv : N.gl[i]? = some v) (hn : n ≤ n') (hf : f ≤ l.slabs.length * d.size ∧ (l.slabs.length - 1) * d.size ≤ f)
    (hc : H' p = some (.cells (.lit (.int .i64 (d.size : Int)) :: .rw N.gs 1 0 d.slabs.length :: .rw N.gt 1 0 d.slabs.length :: landsC (d.lands.set i ⟨l.there, l.gen, l.slabs, f⟩) N.gl))) (hh : ∀ j, S j → j ≠ p → H' j = H j) :
    PoolH H' n' S p N (d.filled i l f) := by
  have hp := h.pl
  have ne : ∀ {j o}, S j → H j = some o → (∀ cs, o ≠ .cells cs) → H' j = some o := fun {j o} hj e q => by
    rw [hh j hj (fun e' => by rw [e', hp] at e; injection e with e; exact q _ e.symm)]; exact e
  have hli := (List.getElem?_eq_some_iff.1 hl).1
  refine ⟨hc, ne h.Sp.2.1 h.gs (by intro cs e; cases e), ne h.Sp.2.2 h.gt (by intro cs e; cases e), fun j s b h1 h2 => ?_, h.gl, h.sl, fun j l1 v1 h1 h2 => ?_, h.nd, h.gd, h.Sp, fun j hj => Nat.lt_of_lt_of_le (h.lt j hj) hn, h.ok.land ?_⟩
  · obtain ⟨q1, q2⟩ := h.sb j s b h1 h2
    exact ⟨ne q2 q1 (by intro cs e; cases e), q2⟩
  · have key : ∀ l2, d.lands[j]? = some l2 → l1.slabs = l2.slabs → LandV H' S l1 v1 := fun l2 e1 e2 => by
      rcases h.ln j l2 v1 e1 h2 with ⟨q, q'⟩ | ⟨g, q1, q2, q3, q4⟩
      · exact .inl ⟨q, e2.trans q'⟩
      · exact .inr ⟨g, by rw [e2]; exact q1, by rw [e2]; exact ne q3 q2 (by intro cs e; cases e), q3, by rw [e2]; exact q4⟩
    by_cases hj : j = i
    · subst hj
      rw [show (d.filled j l f).lands[j]? = some ⟨l.there, l.gen, l.slabs, f⟩ from List.getElem?_set_self hli] at h1
      injection h1 with h1
      exact key l hl (by rw [← h1])
    · rw [show (d.filled i l f).lands[j]? = d.lands[j]? from List.getElem?_set_ne (Ne.symm hj)] at h1
      exact key l1 h1 rfl
  · have hm := h.ok.ls l (List.mem_of_getElem? hl)
    exact ⟨hm.1, hm.2.1, hf.1, hf.2, hm.2.2.2.2⟩
theorem alloc_c (h : PoolH H n S p N d) {i c : Nat} {l : LandD} (hl : d.lands[i]? = some l) (ht : l.there = true) (hll : l.slabs.length < 4096) (hb : c ≤ 140737488355328) :
    HCalls Try.prog 44 [.ptr p 0, .lit (.int .i64 (i : Int)), .lit (.int .i64 (c : Int)), .lit (.int .i64 1)] H n (PoolP H n S p (allocD d i l c).1 (.tup [(allocD d i l c).2.1, .lit (.int .i64 (allocD d i l c).2.2)])) := by
  refine hcallsC_of (rs := [.cell 8 49, .tmp 9]) ⟨[0, 1, 2, 3, 8, 9, 10, 11, 12, 13, 15, 20, 24, 94, 98], [], [], [(8, [(0, [], []), (1, [], []), (2, [], []), (3, [], []), (4, [], []), (5, [], []), (6, [], []), (7, [], []), (8, [], []), (9, [], []), (10, [], [9, 0, 1, 2, 3, 4, 5, 6, 7, 8])]), (9, [(0, [], []), (1, [], []), (2, [], []), (3, [], []), (4, [], []), (5, [], []), (6, [], []), (7, [], []), (8, [], []), (9, [], []), (10, [], []), (11, [], [10, 0, 1, 2, 3, 4, 5, 6, 7, 8, 9])]), (15, [(0, [], []), (1, [], []), (2, [], []), (3, [], []), (4, [], []), (5, [], []), (6, [], []), (7, [], []), (8, [], []), (9, [], []), (10, [], []), (11, [], []), (12, [], []), (13, [], [12, 0, 1, 2, 3, 4, 5, 6, 7, 8, 9, 10, 11])])], []⟩ TOk mixed Try.func44 rfl rfl (by kernel_rfl) (by kernel_rfl) rfl ?_
  have hpn : p < n := h.lt p h.Sp.1
  simp only [push_cast, Nat.reduceBEq, Nat.reduceAdd, Nat.reduceEqDiff, reduceCtorEq, Nat.reduceLeDiff, Nat.reduceSub, Nat.reduceMul, Nat.reduceLT, Int.reduceEq, Int.reduceLT, Int.reduceLE, Int.reduceBEq, Int.reduceBNe, Int.reduceToNat, Int.reduceNeg, Int.reduceSub, Int.reduceAdd]
  have hN := h.frame (H' := upd H n (some (.cells [.lit (.int .i64 0), .lit (.int .i64 0), .lit (.int .i64 0), .lit (.int .i64 0)]))) (n' := n + 1) (by omega) fun j hj => upd_other (by have := h.lt j hj; omega)
  have h1n : (upd H n (some (.cells [.lit (.int .i64 0), .lit (.int .i64 0), .lit (.int .i64 0), .lit (.int .i64 0)]))) n = some (.cells [.lit (.int .i64 0), .lit (.int .i64 0), .lit (.int .i64 0), .lit (.int .i64 0)]) := upd_same _ _ _
  have k1 : ∀ j, j < n → (upd H n (some (.cells [.lit (.int .i64 0), .lit (.int .i64 0), .lit (.int .i64 0), .lit (.int .i64 0)]))) j = H j := fun j hj => upd_other (by omega)
  generalize (upd H n (some (.cells [.lit (.int .i64 0), .lit (.int .i64 0), .lit (.int .i64 0), .lit (.int .i64 0)]))) = H1 at hN h1n k1 ⊢
  refine callH (land_h hN hl ht) ?_
  rintro _ H1 n1 ⟨rfl, rfl, rfl⟩
  have pl := hN.pl
  have c4 : (n == p) = false := nb (by omega)
  have c5 : (p == n) = false := nb (by omega)
  have w0 : IntKind.i64.wrap (((BitVec.ofInt IntKind.i64.bits 1) &&& (BitVec.ofInt IntKind.i64.bits 0)).toNat : Int) = 0 := by rfl
  have hsame : ∀ (o : Option AO) (r : AV), PoolP H n S p d r r (upd H1 n o) (n + 1) := fun o r => ⟨rfl, S, ⟨N, hN.frame (Nat.le_refl _) fun j hj => upd_other (by have := h.lt j hj; omega)⟩, by omega, fun j hj hs => ⟨by rw [upd_other (by omega)]; exact k1 j hj, hs⟩⟩
  have g1 : ¬ (1 : Int) > 64 := by decide
  have w7 : IntKind.i64.wrap 0 = 0 := by rfl
  obtain ⟨P1, hP1⟩ : ∃ b, decide ((c : Int) < 1) = b := ⟨_, rfl⟩
  obtain ⟨P2, hP2⟩ : ∃ b, decide (d.size < c) = b := ⟨_, rfl⟩
  cases P1 with
  | true =>
    have e : allocD d i l c = (d, hand0, 1) := by unfold allocD; rw [if_pos (.inl (by have := of_decide_eq_true hP1; omega))]
    rw [e]
    simp only [push_cast, Nat.reduceBEq, Nat.reduceAdd, Nat.reduceEqDiff, reduceCtorEq, Nat.reduceLeDiff, Nat.reduceSub, Nat.reduceMul, Nat.reduceLT, Int.reduceEq, Int.reduceLT, Int.reduceLE, Int.reduceBEq, Int.reduceBNe, Int.reduceToNat, Int.reduceNeg, Int.reduceSub, Int.reduceAdd, pl, h1n, hP1, c4, c5]
    exact hsame _ _
  | false =>
    cases P2 with
    | true =>
      have e : allocD d i l c = (d, hand0, 1) := by unfold allocD; rw [if_pos (.inr (by have := of_decide_eq_true hP2; omega))]
      rw [e]
      simp only [push_cast, Nat.reduceBEq, Nat.reduceAdd, Nat.reduceEqDiff, reduceCtorEq, Nat.reduceLeDiff, Nat.reduceSub, Nat.reduceMul, Nat.reduceLT, Int.reduceEq, Int.reduceLT, Int.reduceLE, Int.reduceBEq, Int.reduceBNe, Int.reduceToNat, Int.reduceNeg, Int.reduceSub, Int.reduceAdd, pl, h1n, hP1, hP2, c4, c5, g1, w7, w0]
      exact hsame _ _
    | false =>
      have c1 := of_decide_eq_false hP1
      have c2 := of_decide_eq_false hP2
      have hsz := h.ok.sz
      obtain ⟨o1, o2, o3, o4, _⟩ := h.ok.ls l (List.mem_of_getElem? hl)
      obtain ⟨X, hX⟩ : ∃ X, l.slabs.length * d.size = X := ⟨_, rfl⟩
      have hXb : X ≤ 4096 * 65536 := by rw [← hX]; exact Nat.mul_le_mul o1 hsz.2
      have hE : X - l.fill ≤ d.size := by
        have : (l.slabs.length - 1) * d.size = X - d.size := by rw [Nat.sub_mul, hX, Nat.one_mul]
        omega
      obtain ⟨E, hEe⟩ : ∃ E, X - l.fill = E := ⟨_, rfl⟩
      obtain ⟨I, hI⟩ : ∃ I, d.size - E = I := ⟨_, rfl⟩
      have w1 : IntKind.i64.wrap ((l.slabs.length : Int) * (d.size : Int)) = (X : Int) := by rw [← Int.natCast_mul, hX]; exact IntWalk.i64_in _ (by omega)
      have w2 : IntKind.i64.wrap ((X : Int) - (l.fill : Int)) = (E : Int) := by rw [show (X : Int) - (l.fill : Int) = (E : Int) by omega]; exact IntWalk.i64_in _ (by omega)
      have w3 : IntKind.i64.wrap ((d.size : Int) - (E : Int)) = (I : Int) := by rw [show (d.size : Int) - (E : Int) = (I : Int) by omega]; exact IntWalk.i64_in _ (by omega)
      have w4 : IntKind.i64.wrap ((I : Int) + 1) = (I : Int) + 1 := IntWalk.i64_in _ (by omega)
      have w5 : IntKind.i64.wrap ((I : Int) + 1 - 1) = (I : Int) := by rw [show (I : Int) + 1 - 1 = (I : Int) by omega]; exact IntWalk.i64_in _ (by omega)
      have w6 := andNot0 (x := I) (by omega)
      have w8 : IntKind.i64.wrap ((I : Int) + (c : Int)) = (I : Int) + (c : Int) := IntWalk.i64_in _ (by omega)
      obtain ⟨v, hv, hlv, hi, hd⟩ := hN.at hl
      obtain ⟨r0, r1, r2, r3⟩ := drops (AV.lit (.int .i64 (d.size : Int))) (.rw N.gs 1 0 d.slabs.length) (.rw N.gt 1 0 d.slabs.length) hd
      have hva : (v = nilV ∧ l.slabs.length = 0) ∨ ∃ g, v = .rw g 1 0 l.slabs.length ∧ ((l.slabs.length : Int) == 0) = false := by
        rcases hlv with ⟨q1, q2⟩ | ⟨g, q1, _, _, q2⟩
        · exact .inl ⟨q1, by rw [q2]; rfl⟩
        · have hpos := List.length_pos_iff.2 q2
          exact .inr ⟨g, q1, beq_eq_false_iff_ne.2 (by omega)⟩
      have hnl : n < n + 1 := Nat.lt_succ_self n
      rw [← stopC_eq (Code.region 11 _ _)]
      refine' meetG (fun meet => _) _
      rotate_left
      · rcases hva with ⟨hv0, hl0⟩ | ⟨g, hv0, hlz⟩
        · subst hv0
          unfold nilV at r0 r1 r2
          rw [hl0] at w1
          have w1 : IntKind.i64.wrap (0 * (d.size : Int)) = (X : Int) := w1
          simp only [push_cast, Nat.reduceBEq, Nat.reduceAdd, Nat.reduceEqDiff, reduceCtorEq, Nat.reduceLeDiff, Nat.reduceSub, Nat.reduceMul, Nat.reduceLT, Int.reduceEq, Int.reduceLT, Int.reduceLE, Int.reduceBEq, Int.reduceBNe, Int.reduceToNat, Int.reduceNeg, Int.reduceSub, Int.reduceAdd, pl, h1n, hP1, hP2, c4, c5, g1, r0, r1, r2, r3, w0, w1, w2, w3, w4, w5, w6, w7, w8]
          exact meet
        · subst hv0
          simp only [push_cast, Nat.reduceBEq, Nat.reduceAdd, Nat.reduceEqDiff, reduceCtorEq, Nat.reduceLeDiff, Nat.reduceSub, Nat.reduceMul, Nat.reduceLT, Int.reduceEq, Int.reduceLT, Int.reduceLE, Int.reduceBEq, Int.reduceBNe, Int.reduceToNat, Int.reduceNeg, Int.reduceSub, Int.reduceAdd, pl, h1n, hP1, hP2, c4, c5, g1, r0, r1, r2, r3, w0, w1, w2, w3, w4, w5, w6, w7, w8]
          exact meet
      · rw [stopC_eq, ← stopC_eq (Code.seq (Code.region 15 _ _) _)]
        have hnS : ¬ S n := fun hs => Nat.lt_irrefl _ (h.lt n hs)
        have hnfit : ¬ l.fill + c ≤ l.slabs.length * d.size → ((l.slabs.length : Int) == 0) = false → (d.size < I + c) = True ∧ ((d.size : Int) < (I : Int) + (c : Int)) = True := fun hf hz => by
          have hz' : l.slabs.length ≠ 0 := fun e => by rw [e] at hz; cases hz
          have e1 : (l.slabs.length - 1) * d.size = X - d.size := by rw [Nat.sub_mul, hX, Nat.one_mul]
          have e2 : d.size ≤ X := by rw [← hX]; exact Nat.le_mul_of_pos_left _ (by omega)
          exact ⟨eq_true (by omega), eq_true (by omega)⟩
        have hfits : l.fill + c ≤ l.slabs.length * d.size → ∃ m : Nat, l.slabs.length = m + 1 ∧ m * d.size + I = l.fill ∧ l.fill + c ≤ (m + 1) * d.size ∧ (d.size < I + c) = False ∧ ((d.size : Int) < (I : Int) + (c : Int)) = False := fun hf => by
          have hz : l.slabs.length ≠ 0 := fun e => by rw [e, Nat.zero_mul] at hf; omega
          obtain ⟨m, hm⟩ : ∃ m, l.slabs.length = m + 1 := ⟨l.slabs.length - 1, by omega⟩
          rw [hm] at hX o3 o4 hf
          have e1 : (m + 1) * d.size = m * d.size + d.size := Nat.succ_mul _ _
          have e2 : m + 1 - 1 = m := by omega
          rw [e2] at o4
          refine ⟨m, hm, by omega, hf, eq_false (by omega), eq_false (by omega)⟩
        have eSmall : ¬ (c < 1 ∨ d.size < c) := by omega
        have eFull : ¬ l.fill + c ≤ l.slabs.length * d.size → firstIdle d.taken = none → allocD d i l c = (d, hand0, 5) := fun hf hi => by unfold allocD; rw [if_neg eSmall, if_neg hf, hi]
        have eFit : l.fill + c ≤ l.slabs.length * d.size → allocD d i l c = (d.filled i l (l.fill + c), handA i l.gen l.fill c, 0) := fun hf => by unfold allocD; rw [if_neg eSmall, if_pos hf]
        have eGrow : ∀ s, ¬ l.fill + c ≤ l.slabs.length * d.size → firstIdle d.taken = some s → allocD d i l c = ((d.grown i l s).filled i ⟨l.there, l.gen, l.slabs ++ [s], l.slabs.length * d.size⟩ (l.slabs.length * d.size + c), handA i l.gen (l.slabs.length * d.size) c, 0) := fun s hf hi => by unfold allocD; rw [if_neg eSmall, if_neg hf, hi]; rfl
        have growL : ∀ s, (d.grown i l s).lands[i]? = some ⟨l.there, l.gen, l.slabs ++ [s], l.slabs.length * d.size⟩ := fun s => List.getElem?_set_self (List.getElem?_eq_some_iff.1 hl).1
        have hoff0 : ∀ m : Nat, m * d.size + 0 = m * d.size := fun m => rfl
        have hcap : l.slabs.length * d.size + c ≤ (l.slabs.length + 1) * d.size := by rw [Nat.succ_mul]; omega
        have hsnoc : ∀ s : Nat, (l.slabs ++ [s]).length = l.slabs.length + 1 := fun s => by simp
        refine' meetG (fun meet => _) _
        rotate_left
        · by_cases hfit : ¬ l.fill + c ≤ l.slabs.length * d.size
          · cases hfi : firstIdle d.taken with
            | some s =>
              obtain ⟨fs1, fs2⟩ := firstIdle_some hfi
              have eg := eGrow s hfit hfi
              rcases hva with ⟨hv0, hl0⟩ | ⟨g, hv0, hlz⟩
              · subst hv0
                unfold nilV at r0 r1 r2
                simp only [push_cast, Nat.reduceBEq, Nat.reduceAdd, Nat.reduceEqDiff, reduceCtorEq, Nat.reduceLeDiff, Nat.reduceSub, Nat.reduceMul, Nat.reduceLT, Int.reduceEq, Int.reduceLT, Int.reduceLE, Int.reduceBEq, Int.reduceBNe, Int.reduceToNat, Int.reduceNeg, Int.reduceSub, Int.reduceAdd, pl, h1n, hP1, hP2, c4, c5, g1, r0, r1, r2, r3, w0, w1, w2, w3, w4, w5, w6, w7, w8]
                refine callH (grow_h hN hl ht hll fs1 fs2) ?_
                rintro r H2 n2 ⟨rfl, S2, ⟨N2, hQ⟩, hn2, k2⟩
                simp only [push_cast, Nat.reduceBEq, Nat.reduceAdd, Nat.reduceEqDiff, reduceCtorEq, Nat.reduceLeDiff, Nat.reduceSub, Nat.reduceMul, Nat.reduceLT, Int.reduceEq, Int.reduceLT, Int.reduceLE, Int.reduceBEq, Int.reduceBNe, Int.reduceToNat, Int.reduceNeg, Int.reduceSub, Int.reduceAdd]
                have hx2 : H2 n = some (.cells [.lit (.int .i64 0), .lit (.int .i64 0), .lit (.int .i64 0), .lit (.int .i64 0)]) := (k2 n hnl hnS).1.trans h1n
                have hnS2 : ¬ S2 n := (k2 n hnl hnS).2
                have k3 : ∀ j, j < n → ¬ S j → H2 j = H j ∧ ¬ S2 j := fun j hj hs => ⟨(k2 j (Nat.lt_succ_of_lt hj) hs).1.trans (k1 j hj), (k2 j (Nat.lt_succ_of_lt hj) hs).2⟩
                have hlx := growL s
                obtain ⟨dx, hdx⟩ : ∃ D, d.grown i l s = D := ⟨_, rfl⟩
                obtain ⟨m, hm⟩ : ∃ m, l.slabs.length = m := ⟨_, rfl⟩
                obtain ⟨sl, hsl1, hsl2⟩ : ∃ sl : List Nat, l.slabs ++ [s] = sl ∧ sl.length = m + 1 := ⟨_, rfl, (hsnoc s).trans (congrArg (· + 1) hm)⟩
                obtain ⟨off, hoff⟩ : ∃ off, m * d.size = off := ⟨_, rfl⟩
                have hcap2 : off + c ≤ (m + 1) * d.size := by rw [← hoff, ← hm]; exact hcap
                have hsz2 : dx.size = d.size := by rw [← hdx]; rfl
                rw [hm, hoff, hsl1, hdx] at eg
                rw [hm, hoff, hsl1, hdx] at hlx
                rw [hdx] at hQ
                obtain ⟨fx, hfx⟩ : ∃ fx, off = fx := ⟨_, rfl⟩
                rw [show (⟨l.there, l.gen, sl, off⟩ : LandD) = ⟨l.there, l.gen, sl, fx⟩ by rw [hfx]] at eg hlx
                obtain ⟨I2, hp, hI2⟩ : ∃ I2 : Nat, ((12, AV.lit (.int .i64 0)) : Nat × AV) = (12, .lit (.int .i64 (I2 : Int))) ∧ m * d.size + I2 = off := ⟨0, rfl, hoff⟩
                rw [hp]
                clear hp hoff hfx hdx hsl1 hm k2
                obtain ⟨v94, hp⟩ : ∃ v, ((94, AV.lit (.bool true)) : Nat × AV) = (94, v) := ⟨_, rfl⟩
                rw [hp]
                clear hp
                obtain ⟨v98, hp⟩ : ∃ v, ((98, AV.lit (.bool false)) : Nat × AV) = (98, v) := ⟨_, rfl⟩
                rw [hp]
                clear hp
                revert eg
                revert hsz2
                revert hcap2
                revert hI2
                revert hsl2
                revert hlx
                revert hQ
                revert hn2
                revert k3
                revert hnS2
                revert hx2
                revert I2
                revert fx
                revert off
                revert m
                revert sl
                revert dx
                revert N2
                revert S2
                revert n2
                revert H2
                revert v94
                revert v98
                exact meet
              · subst hv0
                obtain ⟨hgt, hgt'⟩ := hnfit hfit hlz
                simp only [push_cast, Nat.reduceBEq, Nat.reduceAdd, Nat.reduceEqDiff, reduceCtorEq, Nat.reduceLeDiff, Nat.reduceSub, Nat.reduceMul, Nat.reduceLT, Int.reduceEq, Int.reduceLT, Int.reduceLE, Int.reduceBEq, Int.reduceBNe, Int.reduceToNat, Int.reduceNeg, Int.reduceSub, Int.reduceAdd, pl, h1n, hP1, hP2, c4, c5, g1, r0, r1, r2, r3, w0, w1, w2, w3, w4, w5, w6, w7, w8, hlz, hgt, hgt']
                refine callH (grow_h hN hl ht hll fs1 fs2) ?_
                rintro r H2 n2 ⟨rfl, S2, ⟨N2, hQ⟩, hn2, k2⟩
                simp only [push_cast, Nat.reduceBEq, Nat.reduceAdd, Nat.reduceEqDiff, reduceCtorEq, Nat.reduceLeDiff, Nat.reduceSub, Nat.reduceMul, Nat.reduceLT, Int.reduceEq, Int.reduceLT, Int.reduceLE, Int.reduceBEq, Int.reduceBNe, Int.reduceToNat, Int.reduceNeg, Int.reduceSub, Int.reduceAdd]
                have hx2 : H2 n = some (.cells [.lit (.int .i64 0), .lit (.int .i64 0), .lit (.int .i64 0), .lit (.int .i64 0)]) := (k2 n hnl hnS).1.trans h1n
                have hnS2 : ¬ S2 n := (k2 n hnl hnS).2
                have k3 : ∀ j, j < n → ¬ S j → H2 j = H j ∧ ¬ S2 j := fun j hj hs => ⟨(k2 j (Nat.lt_succ_of_lt hj) hs).1.trans (k1 j hj), (k2 j (Nat.lt_succ_of_lt hj) hs).2⟩
                have hlx := growL s
                exact meet (.lit (.bool false)) (.lit (.bool true)) H2 n2 S2 N2 (d.grown i l s) (l.slabs ++ [s]) l.slabs.length (l.slabs.length * d.size) (l.slabs.length * d.size) 0 hx2 hnS2 k3 hn2 hQ hlx (hsnoc s) (hoff0 _) hcap rfl eg
            | none =>
              have e := eFull hfit hfi
              rw [e]
              rcases hva with ⟨hv0, hl0⟩ | ⟨g, hv0, hlz⟩
              · subst hv0
                unfold nilV at r0 r1 r2
                simp only [push_cast, Nat.reduceBEq, Nat.reduceAdd, Nat.reduceEqDiff, reduceCtorEq, Nat.reduceLeDiff, Nat.reduceSub, Nat.reduceMul, Nat.reduceLT, Int.reduceEq, Int.reduceLT, Int.reduceLE, Int.reduceBEq, Int.reduceBNe, Int.reduceToNat, Int.reduceNeg, Int.reduceSub, Int.reduceAdd, pl, h1n, hP1, hP2, c4, c5, g1, r0, r1, r2, r3, w0, w1, w2, w3, w4, w5, w6, w7, w8]
                refine callH (grow_none hN _ (firstIdle_none hfi)) ?_
                rintro r H2 n2 ⟨hr, hH, hn⟩
                rw [hr, hH, hn]
                simp only [push_cast, Nat.reduceBEq, Nat.reduceAdd, Nat.reduceEqDiff, reduceCtorEq, Nat.reduceLeDiff, Nat.reduceSub, Nat.reduceMul, Nat.reduceLT, Int.reduceEq, Int.reduceLT, Int.reduceLE, Int.reduceBEq, Int.reduceBNe, Int.reduceToNat, Int.reduceNeg, Int.reduceSub, Int.reduceAdd, pl, h1n, hP1, hP2, c4, c5, g1, r0, r1, r2, r3, w0, w1, w2, w3, w4, w5, w6, w7, w8]
                exact hsame _ _
              · subst hv0
                obtain ⟨hgt, hgt'⟩ := hnfit hfit hlz
                simp only [push_cast, Nat.reduceBEq, Nat.reduceAdd, Nat.reduceEqDiff, reduceCtorEq, Nat.reduceLeDiff, Nat.reduceSub, Nat.reduceMul, Nat.reduceLT, Int.reduceEq, Int.reduceLT, Int.reduceLE, Int.reduceBEq, Int.reduceBNe, Int.reduceToNat, Int.reduceNeg, Int.reduceSub, Int.reduceAdd, pl, h1n, hP1, hP2, c4, c5, g1, r0, r1, r2, r3, w0, w1, w2, w3, w4, w5, w6, w7, w8, hlz, hgt, hgt']
                refine callH (grow_none hN _ (firstIdle_none hfi)) ?_
                rintro r H2 n2 ⟨hr, hH, hn⟩
                rw [hr, hH, hn]
                simp only [push_cast, Nat.reduceBEq, Nat.reduceAdd, Nat.reduceEqDiff, reduceCtorEq, Nat.reduceLeDiff, Nat.reduceSub, Nat.reduceMul, Nat.reduceLT, Int.reduceEq, Int.reduceLT, Int.reduceLE, Int.reduceBEq, Int.reduceBNe, Int.reduceToNat, Int.reduceNeg, Int.reduceSub, Int.reduceAdd, pl, h1n, hP1, hP2, c4, c5, g1, r0, r1, r2, r3, w0, w1, w2, w3, w4, w5, w6, w7, w8]
                exact hsame _ _
          · obtain ⟨m, hm1, hm2, hm3, hm4, hm5⟩ := hfits (Classical.not_not.1 hfit)
            have ef := eFit (Classical.not_not.1 hfit)
            rcases hva with ⟨hv0, hl0⟩ | ⟨g, hv0, hlz⟩
            · exact absurd (hl0.symm.trans hm1) (by simp)
            · subst hv0
              simp only [push_cast, Nat.reduceBEq, Nat.reduceAdd, Nat.reduceEqDiff, reduceCtorEq, Nat.reduceLeDiff, Nat.reduceSub, Nat.reduceMul, Nat.reduceLT, Int.reduceEq, Int.reduceLT, Int.reduceLE, Int.reduceBEq, Int.reduceBNe, Int.reduceToNat, Int.reduceNeg, Int.reduceSub, Int.reduceAdd, pl, h1n, hP1, hP2, c4, c5, g1, r0, r1, r2, r3, w0, w1, w2, w3, w4, w5, w6, w7, w8, hlz, hm4, hm5]
              exact meet .dead (.lit (.bool false)) H1 (n + 1) S N d l.slabs m l.fill l.fill I h1n hnS (fun j hj hs => ⟨k1 j hj, hs⟩) (Nat.le_refl _) hN hl hm1 hm2 hm3 rfl ef
        · clear hN pl h1n hsame hd hlv hva r0 r1 r2 r3 w1 w2 w3 w5 w6 hX hXb hE hEe hI hnfit hfits eSmall eFull eFit eGrow growL hcap hv
          intro v98 v94 H2 n2 S2 N2 dx sl m off fx I2 hx2 hnS2 k3 hn2 hQ hlx hsl2 hI2 hcap2 hsz2 eg
          rw [stopC_eq]
          have pl2 := hQ.pl
          obtain ⟨v2, hv2, hlv2, _, hd2⟩ := hQ.at hlx
          have hn2S : n < n2 := by omega
          rcases hlv2 with ⟨q1, q2⟩ | ⟨g2, q1, q2, q3, q4⟩
          · dsimp only at q2; rw [q2] at hsl2; simp at hsl2
          · dsimp only at q1 q2 q4
            subst q1
            rw [hsl2] at hv2 hd2
            rw [hsz2] at pl2
            have hk2 : m ≤ 4096 := by have := (hQ.ok.ls _ (List.mem_of_getElem? hlx)).1; dsimp only at this; omega
            have hM : m * d.size ≤ 4096 * 65536 := Nat.mul_le_mul hk2 hsz.2
            obtain ⟨M, hMe⟩ : ∃ M, m * d.size = M := ⟨_, rfl⟩
            rw [hMe] at hI2 hM
            have hcapM : off + c ≤ M + d.size := by rw [← hMe, ← Nat.succ_mul]; exact hcap2
            have W1 : IntKind.i64.wrap ((m : Int) + 1 - 1) = (m : Int) := by rw [show (m : Int) + 1 - 1 = (m : Int) by omega]; exact IntWalk.i64_in _ (by omega)
            have W2 : IntKind.i64.wrap ((m : Int) * (d.size : Int)) = (M : Int) := by rw [← Int.natCast_mul, hMe]; exact IntWalk.i64_in _ (by omega)
            have W3 : IntKind.i64.wrap ((M : Int) + (I2 : Int)) = (off : Int) := by rw [show (M : Int) + (I2 : Int) = (off : Int) by omega]; exact IntWalk.i64_in _ (by omega)
            have W4 : IntKind.i64.wrap ((off : Int) + (c : Int)) = (off : Int) + (c : Int) := IntWalk.i64_in _ (by omega)
            obtain ⟨r0, r1, r2, r3⟩ := drops (AV.lit (.int .i64 (d.size : Int))) (.rw N2.gs 1 0 dx.slabs.length) (.rw N2.gt 1 0 dx.slabs.length) hd2
            have hst := store3 (l' := ⟨l.there, l.gen, sl, off + c⟩) hlx hv2 (f := .lit (.int .i64 ((off : Int) + (c : Int)))) rfl
            have hlx2 : (dx.lands.set i ⟨l.there, l.gen, sl, off + c⟩)[i]? = some ⟨l.there, l.gen, sl, off + c⟩ := List.getElem?_set_self (List.getElem?_eq_some_iff.1 hlx).1
            obtain ⟨t0, t1, t2, t3⟩ := drops (AV.lit (.int .i64 (d.size : Int))) (.rw N2.gs 1 0 dx.slabs.length) (.rw N2.gt 1 0 dx.slabs.length) (landsC_drop hlx2 hv2)
            have hlen : 3 + i * 4 + 1 ≤ (landsC dx.lands N2.gl).length := by rw [landsC_len (hQ.ok.ll.trans hQ.gl.symm), hQ.ok.ll]; have := (List.getElem?_eq_some_iff.1 hlx).1; rw [hQ.ok.ll] at this; omega
            dsimp only at r0 r1 r2 r3 t0 t1 t2 t3
            simp only [push_cast, Nat.reduceBEq, Nat.reduceAdd, Nat.reduceEqDiff, reduceCtorEq, Nat.reduceLeDiff, Nat.reduceSub, Nat.reduceMul, Nat.reduceLT, Int.reduceEq, Int.reduceLT, Int.reduceLE, Int.reduceBEq, Int.reduceBNe, Int.reduceToNat, Int.reduceNeg, Int.reduceSub, Int.reduceAdd, pl2, hx2, c4, c5, r0, r1, r2, r3, t0, t1, hst, hlen, W1, W2, W3, W4]
            rw [eg]
            have hh2 : ∀ j, S2 j → j ≠ p → upd (upd H2 p (some (.cells (.lit (.int .i64 (d.size : Int)) :: .rw N2.gs 1 0 dx.slabs.length :: .rw N2.gt 1 0 dx.slabs.length :: landsC (dx.lands.set i ⟨l.there, l.gen, sl, off + c⟩) N2.gl)))) n (some (.cells [.lit (.int .i64 (i : Int)), .lit (.int .i64 (l.gen : Int)), .lit (.int .i64 (off : Int)), .lit (.int .i64 (c : Int))])) j = H2 j := fun j hj hjp => by
              rw [upd_other (fun e => hnS2 (by rw [e]; exact hj)), upd_other (Ne.symm hjp)]
            refine ⟨rfl, S2, ⟨N2, hQ.refill (l := ⟨l.there, l.gen, sl, fx⟩) hlx hv2 (Nat.le_refl _) ?_ ?_ hh2⟩, by omega, fun j hj hs => ⟨?_, (k3 j hj hs).2⟩⟩
            · dsimp only
              rw [hsl2, hsz2]
              exact ⟨hcap2, by rw [show m + 1 - 1 = m by omega, hMe]; omega⟩
            · rw [upd_other (by omega), upd_same, hsz2]
            · rw [upd_other (by omega), upd_other (fun e => hs (by rw [← e]; exact h.Sp.1))]
              exact (k3 j hj hs).1
end
end Go.Proofs.Ytndojmpgadbefaa
