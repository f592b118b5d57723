/- Edit: Encode, by the walk over a heap. -/
import Derived.Test.YtheanmfdfoefoaaEncH
import Derived.Test.YtheanmfdfoefoaaEdSwap
set_option linter.unusedVariables false
namespace Go.Proofs.Ytheanmfdfoefoaa
open Go Go.RowKit Hv
set_option linter.unusedSimpArgs false

def plE (p : PlD) : List UInt8 := [p.level.toNat, p.file.toNat].flatMap putB
def adE (a : AddD) : List UInt8 := [a.level.toNat, a.t.file.toNat, a.t.size.toNat].flatMap putB ++ textB a.t.first ++ textB a.t.last
def zsE (e : EdD) : List Int := [e.log, e.next, e.seq]
def hdE (e : EdD) : List UInt8 := (zsE e).flatMap fun z => putB (zig z)
def edE (e : EdD) : List UInt8 := hdE e ++ putB e.gone.length ++ e.gone.flatMap plE ++ putB e.new.length ++ e.new.flatMap adE
theorem flatMap_le {α β : Type} {f : α → List β} {c : Nat} (l : List α) (h : ∀ x ∈ l, (f x).length ≤ c) : (l.flatMap f).length ≤ l.length * c := by
  induction l with
  | nil => simp
  | cons a l ih =>
    rw [List.flatMap_cons, List.length_append, List.length_cons, Nat.succ_mul]
    have h1 := h a (by simp)
    have h2 := ih fun x hx => h x (by simp [hx])
    omega
theorem put1 (n : Nat) : [n].flatMap putB = putB n := by simp
/-- A step: bytes behind those that the variable holds. -/
theorem bis_new {H H' : Hp} {lo hi nx : Nat} {c : AV} {l w : List UInt8} {k : Nat} (hk : k = (l ++ w).length) (hn : H' nx = some (.row false 5 (byL (l ++ w)))) (h1 : lo ≤ nx) (h2 : nx < hi) : BIs H' lo hi (.rw nx 1 0 k) (l ++ w) := by
  subst hk
  exact .inr ⟨nx, rfl, hn, h1, h2⟩
theorem right_nums' {e : EdD} (h : rightB e = true) : True ∧ True ∧ True ∧ e.gone.length ≤ 1000 ∧ e.new.length ≤ 1000 ∧ e.gone.all plB = true ∧ e.new.all addB = true := by
  unfold rightB at h
  simp only [Bool.and_eq_true] at h
  obtain ⟨⟨h1, h2⟩, h3⟩ := h
  have := (headB_iff e).1 h1
  exact ⟨trivial, trivial, trivial, by omega, by omega, h2, h3⟩
theorem right_pl {p : PlD} (h : plB p = true) : (p.level.toNat : Int) = p.level ∧ (p.file.toNat : Int) = p.file ∧ p.level.toNat < 4 ∧ p.file.toNat < 1000000 := by
  simp only [plB, Bool.and_eq_true, decide_eq_true_eq] at h
  omega
theorem right_ad {a : AddD} (h : addB a = true) : (a.level.toNat : Int) = a.level ∧ (a.t.file.toNat : Int) = a.t.file ∧ (a.t.size.toNat : Int) = a.t.size ∧ a.level.toNat < 4 ∧ a.t.file.toNat < 1000000 ∧ a.t.size.toNat < 2000000 ∧ a.t.first.size ≤ 64 ∧ a.t.last.size ≤ 64 := by
  simp only [addB, tableB, keyB, Bool.and_eq_true, decide_eq_true_eq] at h
  omega
/-- The bytes so far. -/
def EncAt (e : EdD) (bs : List UInt8) (nx : Nat) (H1 : Hp) : Prop := 3 ≤ nx ∧ H1 0 = some (.cells (edCells e)) ∧ ∃ c, H1 2 = some (.cells [c]) ∧ BIs H1 3 nx c bs
theorem EncAt.fresh {e : EdD} {bs : List UInt8} {nx nx' i : Nat} {H1 : Hp} {o : Option AO} (h : EncAt e bs nx H1) (h1 : nx ≤ i) (h2 : i < nx') : EncAt e bs nx' (upd H1 i o) := by
  obtain ⟨h3, h0, c, hc, hB⟩ := h
  exact ⟨by omega, by rw [upd_other (by omega)]; exact h0, c, by rw [upd_other (by omega)]; exact hc, hB.mono (Nat.le_refl _) (by omega) fun j _ hj => upd_other (by omega)⟩
theorem EncAt.fresh2 {e : EdD} {bs : List UInt8} {nx nx' i : Nat} {H1 : Hp} {o o' : Option AO} (h : EncAt e bs nx H1) (h1 : nx ≤ i) (h2 : i < nx') : EncAt e bs nx' (upd (upd H1 i o) i o') := by
  obtain ⟨h3, h0, c, hc, hB⟩ := h
  exact ⟨by omega, by rw [upd_other (by omega), upd_other (by omega)]; exact h0, c, by rw [upd_other (by omega), upd_other (by omega)]; exact hc, hB.mono (Nat.le_refl _) (by omega) fun j _ hj => by rw [upd_other (by omega), upd_other (by omega)]⟩
theorem enc_put {e : EdD} {bs : List UInt8} {nx : Nat} {H1 : Hp} {ns : List Nat} (h : EncAt e bs nx H1) (hns : ∀ k ∈ ns, k < 9223372036854775808) (hbs : bs.length ≤ 1000000000000) (hnl : ns.length ≤ 1000000) :
    HCalls Try.prog 74 [.rw nx 1 0 ns.length, .ptr 2 0] (upd H1 nx (some (.row false 3 (ns.map natH)))) (nx + 1) fun r H' n' => r = .tup [] ∧ nx < n' ∧ EncAt e (bs ++ ns.flatMap putB) n' H' ∧ ∀ j, j < nx → j ≠ 2 → ∀ cs, H1 j = some (.cells cs) → H' j = some (.cells cs) := by
  obtain ⟨h3, h0, c, hc, hB⟩ := h.fresh (o := some (.row false 3 (ns.map natH))) (Nat.le_refl nx) (Nat.lt_succ_self nx)
  refine (encPut_h (by omega) (by omega) h3 hc hB (upd_same _ _ _) hns hbs hnl).mono ?_
  rintro r H' n' ⟨hr, hn, hfr, c', hc', hB'⟩
  refine ⟨hr, by omega, ⟨by omega, ?_, c', hc', hB'⟩, fun j hj hj2 cs hcs => ?_⟩
  · rw [hfr 0 (by omega) (by omega) (bis_ne hB h0)]; exact h0
  · have : upd H1 nx (some (.row false 3 (ns.map natH))) j = some (.cells cs) := by rw [upd_other (by omega)]; exact hcs
    rw [hfr j (by omega) hj2 (bis_ne hB this)]; exact this
/-- Bytes of its own come behind those that the variable holds. -/
theorem enc_step {e : EdD} {l w : List UInt8} {nx nx' id k : Nat} {H1 H2 : Hp} (h : EncAt e l nx H1) (hk : k = (l ++ w).length) (h2 : H2 2 = some (.cells [.rw id 1 0 k])) (hid : H2 id = some (.row false 5 (byL (l ++ w)))) (h0 : H2 0 = H1 0) (h3 : 3 ≤ id) (h4 : id < nx') : EncAt e (l ++ w) nx' H2 :=
  ⟨by omega, h0.trans h.2.1, _, h2, bis_new (H := H1) (c := .dead) hk hid h3 h4⟩
set_option maxRecDepth 20000 in
set_option maxHeartbeats 16000000 in
theorem encode_yes (e : EdD) (hr : rightB e = true) : Hv.ACalls Try.prog 49 [edH e] (.tup [.sl (byL (edE e)), .lit (.int .i64 0)]) := by
  obtain ⟨⟨b1, b1', b2⟩, ⟨b3, b3', b4⟩, ⟨b5, b6⟩, hgl, hnl⟩ := (headB_iff e).1 (by unfold rightB at hr; simp only [Bool.and_eq_true] at hr; exact hr.1.1)
  obtain ⟨_, _, _, _, _, hga, hna⟩ := right_nums' hr
  refine acallsC_of (rs := [.tmp 2, .tmp 3]) ⟨[0, 1, 2, 3, 4, 5, 7, 9, 11, 14, 22, 23, 24, 38, 39, 40, 41, 59, 60, 61, 62], [], [], [(8, [(0, [], []), (1, [], []), (2, [0], [1]), (3, [], [0, 2, 1]), (4, [], [3, 0, 1, 2])]), (21, [(0, [], []), (1, [], []), (2, [], []), (3, [], []), (6, [], []), (7, [], []), (8, [], []), (4, [0, 8], [3, 2, 1]), (5, [8], [0, 4, 3, 2, 1]), (9, [], [8, 5, 7, 0, 4, 6, 3, 2, 1]), (10, [], [5, 9, 0, 4, 8, 3, 7, 2, 6, 1]), (11, [], [10, 0, 1, 2, 3, 4, 5, 6, 7, 8, 9])])], [], []⟩ TOk mixed Try.func49 rfl rfl (by kernel_rfl) (by kernel_rfl) rfl (nid1 (noId_ed e)) (by rw [noId_tup]; exact nid2 (noId_by _) (.lit _)) ?_
  simp only [push_cast, Nat.reduceBEq, Nat.reduceAdd, Nat.reduceEqDiff, reduceCtorEq, Nat.reduceLeDiff, Nat.reduceSub, Nat.reduceMul, Nat.reduceLT, Int.reduceEq, Int.reduceLT, Int.reduceLE, Int.reduceBEq, Int.reduceBNe, Int.reduceToNat, Int.reduceNeg, Int.reduceSub, Int.reduceAdd, edH]
  refine callK (edRight_h e) ?_
  simp only [push_cast, Nat.reduceBEq, Nat.reduceAdd, Nat.reduceEqDiff, reduceCtorEq, Nat.reduceLeDiff, Nat.reduceSub, Nat.reduceMul, Nat.reduceLT, Int.reduceEq, Int.reduceLT, Int.reduceLE, Int.reduceBEq, Int.reduceBNe, Int.reduceToNat, Int.reduceNeg, Int.reduceSub, Int.reduceAdd, hr]
  refine loopK (fun m s => ∃ (k nx : Nat) (H1 : Hp), k ≤ 3 ∧ EncAt e (((zsE e).take k).flatMap fun z => putB (zig z)) nx H1 ∧ m = 3 - k ∧ s = ⟨[(1, .ptr 0 0), (4, .ptr 2 0), (5, .fn 74 [.ptr 2 0]), (22, .agg [.lit (.int .i64 e.log), .lit (.int .i64 e.next), .lit (.int .i64 e.seq)]), (23, .lit (.int .i64 (k : Int)))], H1, nx⟩) _ [1, 4, 5, 22, 23] ⟨0, 3, _, by omega, ⟨by omega, rfl, _, rfl, .inl ⟨rfl, rfl⟩⟩, rfl, rfl⟩ ?_
  rintro m _ ⟨k, nx, H1, hk, hE, rfl, rfl⟩
  by_cases h : k < 3
  · obtain ⟨z, hz, hz1, hz2⟩ : ∃ z, (zsE e)[k]? = some z ∧ -1 ≤ z ∧ z < 4611686018427387904 := by
      obtain rfl | rfl | rfl : k = 0 ∨ k = 1 ∨ k = 2 := by omega
      · exact ⟨_, rfl, b1, by omega⟩
      · exact ⟨_, rfl, b3, by omega⟩
      · exact ⟨_, rfl, b5, by omega⟩
    have hidx : [AV.lit (.int .i64 e.log), .lit (.int .i64 e.next), .lit (.int .i64 e.seq)][k]? = some (.lit (.int .i64 z)) := by
      have : [AV.lit (.int .i64 e.log), .lit (.int .i64 e.next), .lit (.int .i64 e.seq)] = (zsE e).map fun z => AV.lit (.int .i64 z) := rfl
      rw [this, List.getElem?_map, hz]; rfl
    have hi3 : (k : Int) < 3 := by omega
    have hw := wrap_nat (k := k) (by omega)
    have hnext : ((zsE e).take (k + 1)).flatMap (fun z => putB (zig z)) = ((zsE e).take k).flatMap (fun z => putB (zig z)) ++ putB (zig z) := by
      rw [List.take_add_one, hz, List.flatMap_append]; simp
    have hlen : (((zsE e).take k).flatMap fun z => putB (zig z)).length ≤ 33 := by
      refine Nat.le_trans (flatMap_le (c := 11) _ fun x _ => putB_length _) ?_
      rw [List.length_take]; simp [zsE]; omega
    have hpl := putB_length (zig z)
    generalize ((zsE e).take k).flatMap (fun z => putB (zig z)) = l at hE hnext hlen
    have hE' := hE
    obtain ⟨hnx, h0, c, hc, hB⟩ := hE
    have hput := putSigned_h z hz1 hz2
    have m1 : (nx == 2) = false := by rw [← Bool.not_eq_true, beq_iff_eq]; omega
    rcases hB with ⟨rfl, rfl⟩ | ⟨id, rfl, hrow, hid1, hid2⟩
    · have hsz : (putB (zig z)).length ≤ 140737488355328 := by omega
      simp only [push_cast, Nat.reduceBEq, Nat.reduceAdd, Nat.reduceEqDiff, reduceCtorEq, Nat.reduceLeDiff, Nat.reduceSub, Nat.reduceMul, Nat.reduceLT, Int.reduceEq, Int.reduceLT, Int.reduceLE, Int.reduceBEq, Int.reduceBNe, Int.reduceToNat, Int.reduceNeg, Int.reduceSub, Int.reduceAdd, hi3, hidx, hc]
      refine callD hput ?_
      simp only [push_cast, Nat.reduceBEq, Nat.reduceAdd, Nat.reduceEqDiff, reduceCtorEq, Nat.reduceLeDiff, Nat.reduceSub, Nat.reduceMul, Nat.reduceLT, Int.reduceEq, Int.reduceLT, Int.reduceLE, Int.reduceBEq, Int.reduceBNe, Int.reduceToNat, Int.reduceNeg, Int.reduceSub, Int.reduceAdd, hc, byL_one, byL_len, hsz, m1, hw]
      refine ⟨_, by omega, k + 1, nx + 1, _, by omega, hnext ▸ enc_step (k := (putB (zig z)).length) (id := nx) hE' rfl (upd_same _ _ _) ?_ ?_ (by omega) (by omega), rfl, rfl⟩
      · rw [upd_other (by omega), upd_same]; rfl
      · rw [upd_other (by omega), upd_other (by omega)]
    · have hsz : l.length + (putB (zig z)).length ≤ 140737488355328 := by omega
      have m2 : (id == 2) = false := by rw [← Bool.not_eq_true, beq_iff_eq]; omega
      have m3 : (nx == id) = false := by rw [← Bool.not_eq_true, beq_iff_eq]; omega
      simp only [push_cast, Nat.reduceBEq, Nat.reduceAdd, Nat.reduceEqDiff, reduceCtorEq, Nat.reduceLeDiff, Nat.reduceSub, Nat.reduceMul, Nat.reduceLT, Int.reduceEq, Int.reduceLT, Int.reduceLE, Int.reduceBEq, Int.reduceBNe, Int.reduceToNat, Int.reduceNeg, Int.reduceSub, Int.reduceAdd, hi3, hidx, hc]
      refine callD hput ?_
      simp only [push_cast, Nat.reduceBEq, Nat.reduceAdd, Nat.reduceEqDiff, reduceCtorEq, Nat.reduceLeDiff, Nat.reduceSub, Nat.reduceMul, Nat.reduceLT, Int.reduceEq, Int.reduceLT, Int.reduceLE, Int.reduceBEq, Int.reduceBNe, Int.reduceToNat, Int.reduceNeg, Int.reduceSub, Int.reduceAdd, hc, byL_one, byL_len, hsz, hrow, m1, m2, m3, hw]
      refine ⟨_, by omega, k + 1, nx + 1, _, by omega, hnext ▸ enc_step (k := l.length + (putB (zig z)).length) (id := nx) hE' (by rw [List.length_append]) (upd_same _ _ _) ?_ ?_ (by omega) (by omega), rfl, rfl⟩
      · rw [upd_other (by omega), upd_same, byL_append]
      · rw [upd_other (by omega), upd_other (by omega), upd_other (by omega)]
  · obtain rfl : k = 3 := by omega
    have h33 : ¬ ((3 : Nat) : Int) < 3 := by omega
    have hE : EncAt e (hdE e) nx H1 := hE
    have hlen : (hdE e).length ≤ 33 := flatMap_le (c := 11) (zsE e) fun x _ => putB_length _
    have h0 := hE.2.1
    simp only [push_cast, Nat.reduceBEq, Nat.reduceAdd, Nat.reduceEqDiff, reduceCtorEq, Nat.reduceLeDiff, Nat.reduceSub, Nat.reduceMul, Nat.reduceLT, Int.reduceEq, Int.reduceLT, Int.reduceLE, Int.reduceBEq, Int.reduceBNe, Int.reduceToNat, Int.reduceNeg, Int.reduceSub, Int.reduceAdd, h33, h0, edCells]
    refine callH (enc_put hE (ns := [e.gone.length]) (by simp; omega) (by omega) (by simp)) ?_
    rintro _ H2 n2 ⟨rfl, hn2, hE2, _⟩
    rw [put1] at hE2
    have h02 := hE2.2.1
    have hlen2 : (hdE e ++ putB e.gone.length).length ≤ 44 := by have := putB_length e.gone.length; rw [List.length_append]; omega
    clear hE h0
    simp only [push_cast, Nat.reduceBEq, Nat.reduceAdd, Nat.reduceEqDiff, reduceCtorEq, Nat.reduceLeDiff, Nat.reduceSub, Nat.reduceMul, Nat.reduceLT, Int.reduceEq, Int.reduceLT, Int.reduceLE, Int.reduceBEq, Int.reduceBNe, Int.reduceToNat, Int.reduceNeg, Int.reduceSub, Int.reduceAdd, h02, edCells]
    generalize hl0 : hdE e ++ putB e.gone.length = l0 at hE2 hlen2
    refine loopK (fun m s => ∃ (k nx : Nat) (H1 : Hp), k ≤ e.gone.length ∧ EncAt e (l0 ++ (e.gone.take k).flatMap plE) nx H1 ∧ m = e.gone.length - k ∧ s = ⟨[(1, .ptr 0 0), (4, .ptr 2 0), (5, .fn 74 [.ptr 2 0]), (38, .sl (e.gone.map plH)), (39, .lit (.int .i64 (e.gone.length : Int))), (40, .lit (.int .i64 (k : Int)))], H1, nx⟩) _ [1, 4, 5, 38, 39, 40] ⟨0, n2, H2, by omega, by simpa using hE2, rfl, rfl⟩ ?_
    clear hE2 h02
    rintro m _ ⟨k, nx, H1, hk, hE, rfl, rfl⟩
    have hplE : ∀ x ∈ e.gone.take k, (plE x).length ≤ 22 := fun x _ => by
      have := flat_len [x.level.toNat, x.file.toNat]
      exact this
    have hlen3 : (l0 ++ (e.gone.take k).flatMap plE).length ≤ 30000 := by
      have := flatMap_le _ hplE
      rw [List.length_append]
      rw [List.length_take] at this
      omega
    by_cases h : k < e.gone.length
    · obtain ⟨p, hp⟩ : ∃ p, e.gone[k]? = some p := ⟨_, List.getElem?_eq_getElem h⟩
      have hpB : plB p = true := List.all_eq_true.1 hga p (List.mem_of_getElem? hp)
      have hw := wrap_nat (k := k) (by omega)
      have hnext : l0 ++ (e.gone.take (k + 1)).flatMap plE = l0 ++ (e.gone.take k).flatMap plE ++ plE p := by
        rw [List.take_add_one, hp, List.flatMap_append, List.append_assoc]; simp
      obtain ⟨a, b, ha, hb, hpe⟩ : ∃ a b : Nat, a < 4 ∧ b < 1000000 ∧ p = ⟨(a : Int), (b : Int)⟩ := by
        obtain ⟨q1, q2, q3, q4⟩ := right_pl hpB
        exact ⟨_, _, q3, q4, by cases p; simp only at q1 q2 ⊢; rw [q1, q2]⟩
      have hplp : plE p = [a, b].flatMap putB := by rw [hpe]; rfl
      subst hpe
      simp only [push_cast, Nat.reduceBEq, Nat.reduceAdd, Nat.reduceEqDiff, reduceCtorEq, Nat.reduceLeDiff, Nat.reduceSub, Nat.reduceMul, Nat.reduceLT, Int.reduceEq, Int.reduceLT, Int.reduceLE, Int.reduceBEq, Int.reduceBNe, Int.reduceToNat, Int.reduceNeg, Int.reduceSub, Int.reduceAdd, h, hp, plH, nbq1_0 nx]
      refine callH (enc_put (hE.fresh2 (Nat.le_refl nx) (Nat.lt_succ_self nx)) (ns := [a, b]) (by simp; omega) (by omega) (by simp)) ?_
      rintro _ H3 n3 ⟨rfl, hn3, hE3, _⟩
      rw [← hplp, ← hnext] at hE3
      simp only [push_cast, Nat.reduceBEq, Nat.reduceAdd, Nat.reduceEqDiff, reduceCtorEq, Nat.reduceLeDiff, Nat.reduceSub, Nat.reduceMul, Nat.reduceLT, Int.reduceEq, Int.reduceLT, Int.reduceLE, Int.reduceBEq, Int.reduceBNe, Int.reduceToNat, Int.reduceNeg, Int.reduceSub, Int.reduceAdd, hw]
      exact ⟨_, by omega, k + 1, n3, H3, by omega, hE3, rfl, rfl⟩
    · obtain rfl : k = e.gone.length := by omega
      have hnlt : ¬ ((e.gone.length : Nat) : Int) < ((e.gone.length : Nat) : Int) := by omega
      rw [List.take_length] at hE hlen3
      have h0 := hE.2.1
      simp only [push_cast, Nat.reduceBEq, Nat.reduceAdd, Nat.reduceEqDiff, reduceCtorEq, Nat.reduceLeDiff, Nat.reduceSub, Nat.reduceMul, Nat.reduceLT, Int.reduceEq, Int.reduceLT, Int.reduceLE, Int.reduceBEq, Int.reduceBNe, Int.reduceToNat, Int.reduceNeg, Int.reduceSub, Int.reduceAdd, hnlt, h0, edCells]
      refine callH (enc_put hE (ns := [e.new.length]) (by simp; omega) (by omega) (by simp)) ?_
      rintro _ H2 n2 ⟨rfl, hn2, hE2, _⟩
      rw [put1] at hE2
      have h02 := hE2.2.1
      have hlen2 : (l0 ++ e.gone.flatMap plE ++ putB e.new.length).length ≤ 30011 := by have := putB_length e.new.length; rw [List.length_append]; omega
      clear hE h0
      simp only [push_cast, Nat.reduceBEq, Nat.reduceAdd, Nat.reduceEqDiff, reduceCtorEq, Nat.reduceLeDiff, Nat.reduceSub, Nat.reduceMul, Nat.reduceLT, Int.reduceEq, Int.reduceLT, Int.reduceLE, Int.reduceBEq, Int.reduceBNe, Int.reduceToNat, Int.reduceNeg, Int.reduceSub, Int.reduceAdd, h02, edCells]
      generalize hl1 : l0 ++ e.gone.flatMap plE ++ putB e.new.length = l1 at hE2 hlen2
      refine loopK (fun m s => ∃ (k nx : Nat) (H1 : Hp), k ≤ e.new.length ∧ EncAt e (l1 ++ (e.new.take k).flatMap adE) nx H1 ∧ m = e.new.length - k ∧ s = ⟨[(4, .ptr 2 0), (5, .fn 74 [.ptr 2 0]), (59, .sl (e.new.map addH)), (60, .lit (.int .i64 (e.new.length : Int))), (61, .lit (.int .i64 (k : Int)))], H1, nx⟩) _ [4, 5, 59, 60, 61] ⟨0, n2, H2, by omega, by simpa using hE2, rfl, rfl⟩ ?_
      clear hE2 h02
      rintro m _ ⟨k, nx, H1, hk, hE, rfl, rfl⟩
      have hadE : ∀ x ∈ e.new.take k, (adE x).length ≤ 1000 := fun x hx => by
        obtain ⟨_, _, _, _, _, _, q1, q2⟩ := right_ad (List.all_eq_true.1 hna x (List.mem_of_mem_take hx))
        have h1 := flat_len [x.level.toNat, x.t.file.toNat, x.t.size.toNat]
        have h2 := putB_length x.t.first.size
        have h3 := putB_length x.t.last.size
        have e1 : x.t.first.data.toList.length = x.t.first.size := by rw [Array.length_toList]; rfl
        have e2 : x.t.last.data.toList.length = x.t.last.size := by rw [Array.length_toList]; rfl
        unfold adE textB
        simp only [List.length_append, List.length_cons, List.length_nil] at h1 ⊢
        omega
      have hlen4 : (l1 ++ (e.new.take k).flatMap adE).length ≤ 2000000 := by
        have := flatMap_le _ hadE
        rw [List.length_append]
        rw [List.length_take] at this
        omega
      by_cases h : k < e.new.length
      · obtain ⟨x, hx⟩ : ∃ x, e.new[k]? = some x := ⟨_, List.getElem?_eq_getElem h⟩
        have hxB : addB x = true := List.all_eq_true.1 hna x (List.mem_of_getElem? hx)
        have hw := wrap_nat (k := k) (by omega)
        have hnext : l1 ++ (e.new.take (k + 1)).flatMap adE = l1 ++ (e.new.take k).flatMap adE ++ adE x := by
          rw [List.take_add_one, hx, List.flatMap_append, List.append_assoc]; simp
        obtain ⟨a, b, c, f, l, ha, hb, hc, hf, hl, hxe⟩ : ∃ (a b c : Nat) (f l : ByteArray), a < 4 ∧ b < 1000000 ∧ c < 2000000 ∧ f.size ≤ 64 ∧ l.size ≤ 64 ∧ x = ⟨(a : Int), ⟨(b : Int), (c : Int), f, l⟩⟩ := by
          obtain ⟨q1, q2, q3, q4, q5, q6, q7, q8⟩ := right_ad hxB
          exact ⟨_, _, _, _, _, q4, q5, q6, q7, q8, by obtain ⟨lv, ⟨f1, s1, _, _⟩⟩ := x; simp only at q1 q2 q3 ⊢; rw [q1, q2, q3]⟩
        have hadx : adE x = [a, b, c].flatMap putB ++ textB f ++ textB l := by rw [hxe]; rfl
        subst hxe
        simp only [push_cast, Nat.reduceBEq, Nat.reduceAdd, Nat.reduceEqDiff, reduceCtorEq, Nat.reduceLeDiff, Nat.reduceSub, Nat.reduceMul, Nat.reduceLT, Int.reduceEq, Int.reduceLT, Int.reduceLE, Int.reduceBEq, Int.reduceBNe, Int.reduceToNat, Int.reduceNeg, Int.reduceSub, Int.reduceAdd, h, hx, addH, nbq1_0 nx]
        refine callH (enc_put (hE.fresh2 (Nat.le_refl nx) (Nat.lt_succ_self nx)) (ns := [a, b, c]) (by simp; omega) (by omega) (by simp)) ?_
        rintro _ H3 n3 ⟨rfl, hn3, hE3, hfr⟩
        have hv := hfr nx (Nat.lt_succ_self nx) (by have := hE.1; omega) _ (upd_same _ _ _)
        clear hfr
        have hpos : 0 < (l1 ++ (e.new.take k).flatMap adE ++ [a, b, c].flatMap putB).length := by
          have := putB_pos a
          simp only [List.length_append, List.flatMap_cons]; omega
        have hlen5 : (l1 ++ (e.new.take k).flatMap adE ++ [a, b, c].flatMap putB).length ≤ 2000100 := by
          have := flat_len [a, b, c]
          simp only [List.length_append, List.length_cons, List.length_nil] at this hlen4 ⊢; omega
        rw [hadx, ← List.append_assoc, ← List.append_assoc] at hnext
        generalize l1 ++ (e.new.take k).flatMap adE ++ [a, b, c].flatMap putB = l2 at hE3 hpos hlen5 hnext
        have hE3' := hE3
        obtain ⟨hnx3, h03, cc, hc3, hB3⟩ := hE3
        rcases hB3 with ⟨_, rfl⟩ | ⟨id, rfl, hrow, hid1, hid2⟩
        · simp at hpos
        have hidnx : id ≠ nx := fun e => by subst e; rw [hv] at hrow; cases hrow
        have t1 : (textB f).length ≤ 100 := by
          have e1 : f.data.toList.length = f.size := by rw [Array.length_toList]; rfl
          have := putB_length f.size
          unfold textB; rw [List.length_append]; omega
        have t2 : (textB l).length ≤ 100 := by
          have e1 : l.data.toList.length = l.size := by rw [Array.length_toList]; rfl
          have := putB_length l.size
          unfold textB; rw [List.length_append]; omega
        have s1 : l2.length + (textB f).length ≤ 140737488355328 := by omega
        have s2 : (l2.length + (textB f).length) + (textB l).length ≤ 140737488355328 := by omega
        have m1 : (n3 == 2) = false := by rw [← Bool.not_eq_true, beq_iff_eq]; omega
        have m2 : (id == 2) = false := by rw [← Bool.not_eq_true, beq_iff_eq]; omega
        have m3 : (n3 == id) = false := by rw [← Bool.not_eq_true, beq_iff_eq]; omega
        have m4 : (n3 == nx) = false := by rw [← Bool.not_eq_true, beq_iff_eq]; omega
        have m5 : (id == nx) = false := by rw [← Bool.not_eq_true, beq_iff_eq]; exact hidnx
        have m6 : (n3 + 1 == 2) = false := by rw [← Bool.not_eq_true, beq_iff_eq]; omega
        have m7 : (n3 + 1 == nx) = false := by rw [← Bool.not_eq_true, beq_iff_eq]; omega
        simp only [push_cast, Nat.reduceBEq, Nat.reduceAdd, Nat.reduceEqDiff, reduceCtorEq, Nat.reduceLeDiff, Nat.reduceSub, Nat.reduceMul, Nat.reduceLT, Int.reduceEq, Int.reduceLT, Int.reduceLE, Int.reduceBEq, Int.reduceBNe, Int.reduceToNat, Int.reduceNeg, Int.reduceSub, Int.reduceAdd, hc3, hv]
        refine callD (putText_h f (by omega)) ?_
        simp only [push_cast, Nat.reduceBEq, Nat.reduceAdd, Nat.reduceEqDiff, reduceCtorEq, Nat.reduceLeDiff, Nat.reduceSub, Nat.reduceMul, Nat.reduceLT, Int.reduceEq, Int.reduceLT, Int.reduceLE, Int.reduceBEq, Int.reduceBNe, Int.reduceToNat, Int.reduceNeg, Int.reduceSub, Int.reduceAdd, hc3, hv, hrow, byL_one, byL_len, s1, m1, m2, m3, m4, m5]
        refine callD (putText_h l (by omega)) ?_
        have hll : (byL l2 ++ byL (textB f)).length = l2.length + (textB f).length := by rw [List.length_append, byL_len, byL_len]
        have m8 : (n3 + 1 == n3) = false := by rw [← Bool.not_eq_true, beq_iff_eq]; omega
        have m9 : (n3 + 1 == id) = false := by rw [← Bool.not_eq_true, beq_iff_eq]; omega
        simp only [push_cast, Nat.reduceBEq, Nat.reduceAdd, Nat.reduceEqDiff, reduceCtorEq, Nat.reduceLeDiff, Nat.reduceSub, Nat.reduceMul, Nat.reduceLT, Int.reduceEq, Int.reduceLT, Int.reduceLE, Int.reduceBEq, Int.reduceBNe, Int.reduceToNat, Int.reduceNeg, Int.reduceSub, Int.reduceAdd, hc3, hv, hrow, byL_one, byL_len, hll, s2, m1, m2, m3, m4, m5, m6, m7, m8, m9, hw]
        refine ⟨_, by omega, k + 1, n3 + 1 + 1, _, by omega, hnext ▸ (List.append_assoc l2 (textB f) (textB l)).symm ▸ enc_step (k := l2.length + (textB f).length + (textB l).length) (id := n3 + 1) hE3' (by simp only [List.length_append]; omega) (upd_same _ _ _) ?_ ?_ (by omega) (by omega), rfl, rfl⟩
        · rw [upd_other (by omega), upd_same, ← List.append_assoc, byL_append, byL_append]
        · rw [upd_other (by omega), upd_other (by omega), upd_other (by omega), upd_other (by omega), upd_other (by omega)]
      · obtain rfl : k = e.new.length := by omega
        have hnlt : ¬ ((e.new.length : Nat) : Int) < ((e.new.length : Nat) : Int) := by omega
        rw [List.take_length] at hE
        have hfin : l1 ++ e.new.flatMap adE = edE e := by rw [← hl1, ← hl0]; rfl
        rw [hfin] at hE
        have hpos : 0 < (edE e).length := by
          have := putB_pos e.new.length
          unfold edE
          simp only [List.length_append]; omega
        obtain ⟨hnx3, h03, cc, hc3, hB3⟩ := hE
        rcases hB3 with ⟨_, hn⟩ | ⟨id, rfl, hrow, hid1, hid2⟩
        · rw [hn] at hpos; simp at hpos
        have hbl : (byL (edE e)).length = (edE e).length := byL_len _
        simp only [push_cast, Nat.reduceBEq, Nat.reduceAdd, Nat.reduceEqDiff, reduceCtorEq, Nat.reduceLeDiff, Nat.reduceSub, Nat.reduceMul, Nat.reduceLT, Int.reduceEq, Int.reduceLT, Int.reduceLE, Int.reduceBEq, Int.reduceBNe, Int.reduceToNat, Int.reduceNeg, Int.reduceSub, Int.reduceAdd, hnlt, hc3, hrow]
        rw [← hbl, ble_self, List.take_length]; rfl
theorem encode_no (e : EdD) (hr : rightB e = false) : Hv.ACalls Try.prog 49 [edH e] (.tup [.sl [], .lit (.int .i64 2)]) := by
  refine acallsC_of (rs := [.tmp 2, .tmp 3]) ⟨[0, 1, 2, 3, 4, 5, 7, 9, 11, 14, 22, 23, 24, 38, 39, 40, 41, 59, 60, 61, 62], [], [], [(8, [(0, [], []), (1, [], []), (2, [0], [1]), (3, [], [0, 2, 1]), (4, [], [3, 0, 1, 2])]), (21, [(0, [], []), (1, [], []), (2, [], []), (3, [], []), (6, [], []), (7, [], []), (8, [], []), (4, [0, 8], [3, 2, 1]), (5, [8], [0, 4, 3, 2, 1]), (9, [], [8, 5, 7, 0, 4, 6, 3, 2, 1]), (10, [], [5, 9, 0, 4, 8, 3, 7, 2, 6, 1]), (11, [], [10, 0, 1, 2, 3, 4, 5, 6, 7, 8, 9])])], [], []⟩ TOk mixed Try.func49 rfl rfl (by kernel_rfl) (by kernel_rfl) rfl (nid1 (noId_ed e)) (by simp [noId_tup, noId_sl, noId_lit]) ?_
  simp only [push_cast, Nat.reduceBEq, Nat.reduceAdd, Nat.reduceEqDiff, reduceCtorEq, Nat.reduceLeDiff, Nat.reduceSub, Nat.reduceMul, Nat.reduceLT, Int.reduceEq, Int.reduceLT, Int.reduceLE, Int.reduceBEq, Int.reduceBNe, Int.reduceToNat, Int.reduceNeg, Int.reduceSub, Int.reduceAdd, edH]
  refine callK (edRight_h e) ?_
  simp only [push_cast, Nat.reduceBEq, Nat.reduceAdd, Nat.reduceEqDiff, reduceCtorEq, Nat.reduceLeDiff, Nat.reduceSub, Nat.reduceMul, Nat.reduceLT, Int.reduceEq, Int.reduceLT, Int.reduceLE, Int.reduceBEq, Int.reduceBNe, Int.reduceToNat, Int.reduceNeg, Int.reduceSub, Int.reduceAdd, hr]
end Go.Proofs.Ytheanmfdfoefoaa
