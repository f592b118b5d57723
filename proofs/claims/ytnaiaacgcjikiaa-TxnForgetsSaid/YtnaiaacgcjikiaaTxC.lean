/- Transactions: Clash, and how they end; by the walk over a heap. -/
import Derived.Test.YtnaiaacgcjikiaaTxO
set_option linter.unusedVariables false
set_option linter.unusedSimpArgs false
namespace Go.Proofs.Ytnaiaacgcjikiaa
open Go Go.RowKit Hv
set_option maxRecDepth 20000
set_option maxHeartbeats 4000000
def laterB (d : BookD) (start : Int) (e : Ent Nm OpD) : Bool := decide ((lookE d.notes e.key).getD 0 > start)
def clashB (d : BookD) (t : TxnD) (p : Nat) : Bool := (lookE d.opn p).isSome && t.ops.any (laterB d t.start)
theorem perm_any {α : Type} {p : α → Bool} {a b : List α} (h : a.Perm b) : a.any p = b.any p := by
  rw [Bool.eq_iff_iff, List.any_eq_true, List.any_eq_true]
  exact ⟨fun ⟨x, hx, hp⟩ => ⟨x, h.mem_iff.1 hx, hp⟩, fun ⟨x, hx, hp⟩ => ⟨x, h.mem_iff.2 hx, hp⟩⟩
theorem clash_h {H : Hp} {n b p m : Nat} {N : BkN} {d : BookD} {t : TxnD} (hb : BookH H n b N d) (h : TxnH H p m t) (hp : p < n) (hm : m < n) : HCalls Try.prog 11 [.ptr b 0, .ptr p 0] H n fun r H' n' => r = .lit (.bool (clashB d t p)) ∧ n ≤ n' ∧ Keeps H H' n [] := by
  refine hcallsC_of (rs := [.tmp 4]) ⟨[0, 1, 4, 5, 16, 21, 23, 36], [], [], [(6, [(0, [], []), (1, [], []), (2, [], []), (3, [], []), (4, [], []), (5, [], []), (6, [], []), (7, [], []), (8, [], []), (9, [], []), (10, [], [])])]⟩ TOk mixed Try.func11 rfl rfl (by kernel_rfl) (by kernel_rfl) rfl ?_
  have bk := hb.bk
  have op := hb.op
  have nt := hb.nt
  have tx := h.tx
  have hops := h.ops
  have hok := h.ok
  unfold clashB
  cases hl : lookE d.opn p with
  | none =>
    have hf := pfind_no (vA := boolA) hb.opV hl
    simp only [push_cast, Nat.reduceBEq, Nat.reduceAdd, Nat.reduceEqDiff, reduceCtorEq, Nat.reduceLeDiff, Nat.reduceSub, Nat.reduceMul, Nat.reduceLT, Int.reduceEq, Int.reduceLT, Int.reduceLE, Int.reduceBEq, Int.reduceBNe, Int.reduceToNat, Int.reduceNeg, Int.reduceSub, Int.reduceAdd, bk, op, tx, hf, Hv.pks28]
    exact ⟨rfl, Keeps.refl _ _ _⟩
  | some v =>
    obtain ⟨i, x, g1, g2, g3, g4, hf⟩ := pfind_yes (vA := boolA) hb.opV hl
    have hv : v = true := by rw [← g4]; exact hb.opT x (List.mem_of_getElem? g2)
    subst hv
    simp only [boolA] at hf
    have hf' := hf
    simp only [push_cast, Nat.reduceBEq, Nat.reduceAdd, Nat.reduceEqDiff, reduceCtorEq, Nat.reduceLeDiff, Nat.reduceSub, Nat.reduceMul, Nat.reduceLT, Int.reduceEq, Int.reduceLT, Int.reduceLE, Int.reduceBEq, Int.reduceBNe, Int.reduceToNat, Int.reduceNeg, Int.reduceSub, Int.reduceAdd, bk, op, tx, hf, boolA, hops, Hv.pks28]
    have e0 : ∀ b : Bool, (true && b) = b := fun b => Bool.true_and b
    refine loopK (fun q s => ∃ (seen : List Nat) (H4 : Hp) (nn : Nat), s = ⟨[(0, .ptr b 0), (1, .ptr p 0), (21, .ptr n 0)], H4, nn⟩ ∧ n + 1 ≤ nn ∧ Keeps H H4 n [] ∧ H4 n = some (.iter (some m) t.oc seen t.oc) ∧ (leftL t.ops seen).any (laterB d t.start) = t.ops.any (laterB d t.start) ∧ q = (leftL t.ops seen).length) _ [0, 1, 21]
      ⟨[], _, _, rfl, Nat.le_refl _, (Keeps.refl _ _ _).new (Nat.le_refl _), upd_same _ _ _, by rw [leftL_nil], rfl⟩ ?_
    rintro q _ ⟨seen, H4, nn, rfl, hnn, hkp, hI, hany, rfl⟩
    have hm4 : H4 m = _ := hkp.to hm List.not_mem_nil hops
    have hb4 : H4 b = _ := hkp.to hb.lt.1 List.not_mem_nil bk
    have hn4 : H4 N.nn = _ := hkp.to hb.lt.2.1 List.not_mem_nil nt
    have hp4 : H4 p = _ := hkp.to hp List.not_mem_nil tx
    simp only [push_cast, Nat.reduceBEq, Nat.reduceAdd, Nat.reduceEqDiff, reduceCtorEq, Nat.reduceLeDiff, Nat.reduceSub, Nat.reduceMul, Nat.reduceLT, Int.reduceEq, Int.reduceLT, Int.reduceLE, Int.reduceBEq, Int.reduceBNe, Int.reduceToNat, Int.reduceNeg, Int.reduceSub, Int.reduceAdd, hI, hm4]
    refine nextK (borns_me hok) (Nat.le_refl _) (fun hle => ?_) (fun x0 hx0 => ?_)
    · have hle' : leftL t.ops seen = [] := by
        rw [leftE_me] at hle
        exact List.map_eq_nil_iff.1 hle
      rw [hle'] at hany
      simp only [push_cast, Nat.reduceBEq, Nat.reduceAdd, Nat.reduceEqDiff, reduceCtorEq, Nat.reduceLeDiff, Nat.reduceSub, Nat.reduceMul, Nat.reduceLT, Int.reduceEq, Int.reduceLT, Int.reduceLE, Int.reduceBEq, Int.reduceBNe, Int.reduceToNat, Int.reduceNeg, Int.reduceSub, Int.reduceAdd, ← hany]
      exact ⟨rfl, by omega, hkp⟩
    · rw [leftE_me] at hx0
      obtain ⟨x, hxl, rfl⟩ := List.mem_map.1 hx0
      clear hx0
      have hxm : x ∈ t.ops := (List.mem_filter.1 hxl).1
      have hfb := find_bornE (kA := nameA) (vA := opA) hok.borns hxm
      have hll := left_lenE hok.borns hxl
      have hnext := leftL_next hok.borns hxl
      simp only [nameA] at hfb
      have hN1 := nameC_len x.key.2
      have hN2 := one_name x.key.1
      have hN3 : (nameC x.key.1).take 65 = nameC x.key.1 := List.take_of_length_le (by omega)
      obtain ⟨zc, zs, z1, z2, z3, z4, z5⟩ := zFacts
      have r1 : (n == m) = false := nb (by omega)
      have r2 : (n == b) = false := nb (by have := hb.lt.1; omega)
      have r3 : (nn == b) = false := nb (by have := hb.lt.1; omega)
      have r4 : (n == N.nn) = false := nb (by have := hb.lt.2.1; omega)
      have r5 : (nn == N.nn) = false := nb (by have := hb.lt.2.1; omega)
      have r6 : (n == p) = false := nb (by omega)
      have r7 : (nn == p) = false := nb (by omega)
      have hkm := kind_name x.key
      simp only [Hv.keyKind, Hv.keys65] at hkm
      obtain ⟨z, hz, hf2⟩ : ∃ z : Int, (lookE d.notes x.key).getD 0 = z ∧ ((lookE d.notes x.key = none ∧ z = 0 ∧ mfind (.agg (nameC x.key.1)) (d.notes.map (Ent.me nameA intA)) 0 = some none) ∨ ∃ i, mfind (.agg (nameC x.key.1)) (d.notes.map (Ent.me nameA intA)) 0 = some (some (i, .lit (.int .i64 z)))) := by
        cases hln : lookE d.notes x.key with
        | none => exact ⟨0, rfl, .inl ⟨rfl, rfl, mfind_no (kA := nameA) (vA := intA) keyOk_name hln⟩⟩
        | some z =>
          obtain ⟨i, _, _, _, _, _, hf3⟩ := mfind_yes (kA := nameA) (vA := intA) keyOk_name hln
          exact ⟨z, rfl, .inr ⟨i, hf3⟩⟩
      have hlat : laterB d t.start x = decide (z > t.start) := by unfold laterB; rw [hz]
      obtain ⟨B, hB⟩ : ∃ B, decide (z > t.start) = B := ⟨_, rfl⟩
      have key : B = true → t.ops.any (laterB d t.start) = true := fun hb => by
        rw [← hany]; exact List.any_eq_true.2 ⟨x, hxl, by rw [hlat, hB, hb]⟩
      have key2 : B = false → (leftL t.ops (seen ++ [x.born])).any (laterB d t.start) = t.ops.any (laterB d t.start) := fun hb => by
        rw [← hany, perm_any hnext, List.any_cons, hlat, hB, hb, Bool.false_or]
      rcases hf2 with ⟨_, rfl, hf2⟩ | ⟨i2, hf2⟩
      · cases B with
        | true =>
          simp only [push_cast, Nat.reduceBEq, Nat.reduceAdd, Nat.reduceEqDiff, reduceCtorEq, Nat.reduceLeDiff, Nat.reduceSub, Nat.reduceMul, Nat.reduceLT, Int.reduceEq, Int.reduceLT, Int.reduceLE, Int.reduceBEq, Int.reduceBNe, Int.reduceToNat, Int.reduceNeg, Int.reduceSub, Int.reduceAdd, Ent.me, nameA, hm4, List.getLast?_concat, hfb, r1, r2, r3, r4, r5, r6, r7, hb4, hn4, hp4, z1, z2, z3, z4, z5, hN1, hN2, hN3, hkm, hf2, hB, List.append_nil, key rfl]
          exact ⟨by omega, ((hkp.new (by omega)).new (by omega)).new (by omega)⟩
        | false =>
          simp only [push_cast, Nat.reduceBEq, Nat.reduceAdd, Nat.reduceEqDiff, reduceCtorEq, Nat.reduceLeDiff, Nat.reduceSub, Nat.reduceMul, Nat.reduceLT, Int.reduceEq, Int.reduceLT, Int.reduceLE, Int.reduceBEq, Int.reduceBNe, Int.reduceToNat, Int.reduceNeg, Int.reduceSub, Int.reduceAdd, Ent.me, nameA, hm4, List.getLast?_concat, hfb, r1, r2, r3, r4, r5, r6, r7, hb4, hn4, hp4, z1, z2, z3, z4, z5, hN1, hN2, hN3, hkm, hf2, hB, List.append_nil]
          exact ⟨_, hll, seen ++ [x.born], _, _, rfl, by omega, ((hkp.new (by omega)).new (by omega)).new (by omega), (upd_other (by omega)).trans ((upd_other (by omega)).trans (upd_same _ _ _)), key2 rfl, rfl⟩
      · cases B with
        | true =>
          simp only [push_cast, Nat.reduceBEq, Nat.reduceAdd, Nat.reduceEqDiff, reduceCtorEq, Nat.reduceLeDiff, Nat.reduceSub, Nat.reduceMul, Nat.reduceLT, Int.reduceEq, Int.reduceLT, Int.reduceLE, Int.reduceBEq, Int.reduceBNe, Int.reduceToNat, Int.reduceNeg, Int.reduceSub, Int.reduceAdd, Ent.me, nameA, hm4, List.getLast?_concat, hfb, r1, r2, r3, r4, r5, r6, r7, hb4, hn4, hp4, z1, z2, z3, z4, z5, hN1, hN2, hN3, hkm, hf2, hB, List.append_nil, key rfl]
          exact ⟨by omega, ((hkp.new (by omega)).new (by omega)).new (by omega)⟩
        | false =>
          simp only [push_cast, Nat.reduceBEq, Nat.reduceAdd, Nat.reduceEqDiff, reduceCtorEq, Nat.reduceLeDiff, Nat.reduceSub, Nat.reduceMul, Nat.reduceLT, Int.reduceEq, Int.reduceLT, Int.reduceLE, Int.reduceBEq, Int.reduceBNe, Int.reduceToNat, Int.reduceNeg, Int.reduceSub, Int.reduceAdd, Ent.me, nameA, hm4, List.getLast?_concat, hfb, r1, r2, r3, r4, r5, r6, r7, hb4, hn4, hp4, z1, z2, z3, z4, z5, hN1, hN2, hN3, hkm, hf2, hB, List.append_nil]
          exact ⟨_, hll, seen ++ [x.born], _, _, rfl, by omega, ((hkp.new (by omega)).new (by omega)).new (by omega), (upd_other (by omega)).trans ((upd_other (by omega)).trans (upd_same _ _ _)), key2 rfl, rfl⟩
/-- A book and a transaction behind its end. -/
def BookD.ended (d : BookD) (p : Nat) : BookD := ⟨d.notes, d.nc, delE d.opn p, d.oc, d.had, d.hc⟩
def TxnD.ended (t : TxnD) : TxnD := ⟨t.start, true, t.ops, t.oc⟩
theorem map_erase {α β : Type} (f : α → β) : ∀ (l : List α) (i : Nat), (l.map f).eraseIdx i = (l.eraseIdx i).map f
  | [], _ => rfl
  | _ :: _, 0 => rfl
  | a :: l, i + 1 => by simp only [List.map_cons, List.eraseIdx_cons_succ, map_erase f l i]
theorem varsIn_cells {ν : Type} {H : Hp} {p : Nat} {cs : List AV} {es : List (Ent Nat ν)} (h : VarsIn H es) : VarsIn (upd H p (some (.cells cs))) es := fun e he => by
  by_cases hp : p = e.key
  · rw [hp, upd_same]; rfl
  · rw [upd_other hp]; exact h e he
theorem pfind_all {ν : Type} {vA : ν → AV} {p : Nat} {v : ν} {es : List (Ent Nat ν)} (h : lookE es p = some v) : ∃ i x, findE es p = some i ∧ es[i]? = some x ∧ x.key = p ∧ x.val = v ∧ ∀ H : Hp, VarsIn H es → gfind (keyPtr H p 0) (es.map (Ent.me ptrA vA)) 0 = some (some (i, vA v)) := by
  rcases find_cases es p with ⟨_, h2, _⟩ | ⟨i, x, h1, h2, h3, h4, _⟩
  · rw [h2] at h; cases h
  · rw [h4] at h
    injection h with h
    refine ⟨i, x, h1, h2, h3, h, fun H hv => ?_⟩
    rw [pfind_me vA p es 0 hv, h1, h4]
    simp [h]
theorem end_h {H : Hp} {n b p m : Nat} {N : BkN} {d : BookD} {t : TxnD} (hb : BookH H n b N d) (h : TxnH H p m t) (hp : p < n) (hm : m < n) (hmx : m ≠ N.nn ∧ m ≠ N.no ∧ m ≠ N.nh) (hl : lookE d.opn p = some true) : HCalls Try.prog 24 [.ptr b 0, .ptr p 0] H n fun r H' n' => r = .tup [] ∧ n' = n ∧ BookH H' n b N (d.ended p) ∧ TxnH H' p m t.ended ∧ Keeps H H' n [p, N.no] := by
  refine hcallsC_of (rs := []) ⟨[0, 1], [], [], []⟩ TOk mixed Try.func24 rfl rfl (by kernel_rfl) (by kernel_rfl) rfl ?_
  have bk := hb.bk
  have op := hb.op
  have tx := h.tx
  have hops := h.ops
  have nt := hb.nt
  have hd := hb.hd
  obtain ⟨i, x, g1, g2, g3, g4, hf⟩ := pfind_all (vA := boolA) hl
  simp only [boolA] at hf
  have hpb : p ≠ b := fun e => by rw [e, bk] at tx; injection tx with tx; injection tx with tx; cases tx
  have hpo : p ≠ N.no := fun e => by rw [e, op] at tx; cases tx
  have hpn : p ≠ N.nn := fun e => by rw [e, nt] at tx; cases tx
  have hph : p ≠ N.nh := fun e => by rw [e, hd] at tx; cases tx
  have hpm : p ≠ m := fun e => by rw [e, hops] at tx; cases tx
  have hob : N.no ≠ b := fun e => by rw [e, bk] at op; cases op
  have hmo : N.no ≠ m := fun e => hmx.2.1 e.symm
  have r1 : (p == b) = false := nb hpb
  have r2 : (p == N.no) = false := nb hpo
  have v1 := fun cs => eq_true (varsIn_cells (p := p) (cs := cs) hb.opV)
  simp only [push_cast, Nat.reduceBEq, Nat.reduceAdd, Nat.reduceEqDiff, reduceCtorEq, Nat.reduceLeDiff, Nat.reduceSub, Nat.reduceMul, Nat.reduceLT, Int.reduceEq, Int.reduceLT, Int.reduceLE, Int.reduceBEq, Int.reduceBNe, Int.reduceToNat, Int.reduceNeg, Int.reduceSub, Int.reduceAdd, bk, op, tx, hf, r1, r2, v1, Hv.pks28]
  obtain ⟨e1, e2, e3⟩ := hb.ne
  have hdel : delE d.opn p = d.opn.eraseIdx i := del_old g1
  have hsub : ∀ e ∈ (d.ended p).opn, e ∈ d.opn := fun e he => by
    have : e ∈ d.opn.eraseIdx i := by rw [← hdel]; exact he
    exact List.mem_of_mem_eraseIdx this
  have vars : ∀ (es : List (Ent Nat Bool)) (o2 : Option AO), VarsIn H es → VarsIn (upd (upd H p (some (AO.cells [AV.lit (Value.int IntKind.i64 t.start), AV.lit (Value.bool true), AV.mp m]))) N.no o2) es := fun es o2 hv e he => by
    have vo : Hv.isVar (H N.no) = false := by rw [op]; rfl
    rw [upd_other (fun x => hv.other vo e he x.symm)]
    exact varsIn_cells hv e he
  refine ⟨⟨?_, ?_, ?_, ?_, hb.lt, hb.ne, hb.ntOk, hb.opOk.del p, hb.hdOk, fun e he => vars _ _ hb.opV e (hsub e he), vars _ _ hb.hdV, fun e he => hb.opL e (hsub e he), hb.hdL, fun e he => hb.opT e (hsub e he), hb.hdT⟩, ⟨?_, ?_, h.ok, h.val, h.len⟩, ((Keeps.refl _ _ _).put (by simp)).put (by simp)⟩
  · rw [upd_other hob, upd_other hpb]; exact bk
  · rw [upd_other (fun e => e1 e.symm), upd_other hpn]; exact nt
  · rw [upd_same]
    refine congrArg (fun l => some (AO.map l d.oc)) ?_
    show _ = (delE d.opn p).map _
    rw [hdel]; exact map_erase _ _ _
  · rw [upd_other e3, upd_other hph]; exact hd
  · rw [upd_other (fun e => hpo e.symm), upd_same]; rfl
  · rw [upd_other hmo, upd_other hpm]; exact hops
/-- A number's keys get their notes. -/
def noteAll : List (Ent Nm Int) × Nat → List OpD → Int → List (Ent Nm Int) × Nat
  | x, [], _ => x
  | x, o :: l, s => if h : o.key.size ≤ 64 then noteAll (putE x.1 x.2 ⟨o.key, h⟩ s) l (s + 1) else noteAll x l (s + 1)
def BookD.noted (d : BookD) (x : List (Ent Nm Int) × Nat) : BookD := ⟨x.1, x.2, d.opn, d.oc, d.had, d.hc⟩
/-- What Commit answers. -/
def comErr (d : BookD) (t : TxnD) (p : Nat) (seq : Int) : Int :=
  if seq ≤ t.start ∨ 72057594037927935 < seq ∨ 72057594037927935 - seq < ((opsOf t).length : Int) - 1 then 1
  else if t.over then 12 else if clashB d t p then 11 else 0
def comBook (d : BookD) (t : TxnD) (p : Nat) (seq : Int) : BookD :=
  if comErr d t p seq = 0 then (d.noted (noteAll (d.notes, d.nc) (opsL t.ops) seq)).ended p else if comErr d t p seq = 11 then d.ended p else d
def comTxn (d : BookD) (t : TxnD) (p : Nat) (seq : Int) : TxnD := if comErr d t p seq = 0 ∨ comErr d t p seq = 11 then t.ended else t
theorem TxnH.keeps {H H' : Hp} {n p m : Nat} {t : TxnD} {x : List Nat} (h : TxnH H p m t) (hk : Keeps H H' n x) (hp : p < n) (hm : m < n) (hpx : p ∉ x) (hmx : m ∉ x) : TxnH H' p m t :=
  ⟨(hk p hp hpx).trans h.tx, (hk m hm hmx).trans h.ops, h.ok, h.val, h.len⟩
theorem abort_h {H : Hp} {n b p m : Nat} {N : BkN} {d : BookD} {t : TxnD} (hb : BookH H n b N d) (h : TxnH H p m t) (hp : p < n) (hm : m < n) (hmx : m ≠ N.nn ∧ m ≠ N.no ∧ m ≠ N.nh) (hl : lookE d.opn p = some true) (hh : lookE d.had p = some true) (ho : t.over = false) :
    HCalls Try.prog 14 [.ptr b 0, .ptr p 0] H n fun r H' n' => r = .lit (.int .i64 0) ∧ n' = n ∧ BookH H' n b N (d.ended p) ∧ TxnH H' p m t.ended ∧ Keeps H H' n [p, N.no] := by
  refine hcallsC_of (rs := [.tmp 4]) ⟨[0, 1, 4, 5, 21], [], [], []⟩ TOk mixed Try.func14 rfl rfl (by kernel_rfl) (by kernel_rfl) rfl ?_
  have bk := hb.bk
  have hd := hb.hd
  have tx := h.tx
  have tx0 := tx
  rw [ho] at tx0
  obtain ⟨i, x, g1, g2, g3, g4, hf⟩ := pfind_all (vA := boolA) hh
  have hf := hf H hb.hdV
  simp only [boolA] at hf
  simp only [push_cast, Nat.reduceBEq, Nat.reduceAdd, Nat.reduceEqDiff, reduceCtorEq, Nat.reduceLeDiff, Nat.reduceSub, Nat.reduceMul, Nat.reduceLT, Int.reduceEq, Int.reduceLT, Int.reduceLE, Int.reduceBEq, Int.reduceBNe, Int.reduceToNat, Int.reduceNeg, Int.reduceSub, Int.reduceAdd, bk, hd, tx0, hf, Hv.pks28]
  refine callH (end_h hb h hp hm hmx hl) ?_
  rintro _ H2 n2 ⟨rfl, rfl, h1, h2, h3⟩
  simp only [push_cast, Nat.reduceBEq, Nat.reduceAdd, Nat.reduceEqDiff, reduceCtorEq, Nat.reduceLeDiff, Nat.reduceSub, Nat.reduceMul, Nat.reduceLT, Int.reduceEq, Int.reduceLT, Int.reduceLE, Int.reduceBEq, Int.reduceBNe, Int.reduceToNat, Int.reduceNeg, Int.reduceSub, Int.reduceAdd]
  exact ⟨h1, h2, h3⟩
theorem noteAll_snoc (o : OpD) : ∀ (l : List OpD) (x : List (Ent Nm Int) × Nat) (s : Int), noteAll x (l ++ [o]) s = if h : o.key.size ≤ 64 then putE (noteAll x l s).1 (noteAll x l s).2 ⟨o.key, h⟩ (s + l.length) else noteAll x l s
  | [], x, s => by simp [noteAll]
  | a :: l, x, s => by
    have e : (s + 1 + (l.length : Int)) = s + ((l.length + 1 : Nat) : Int) := by omega
    by_cases ha : a.key.size ≤ 64
    · simp only [List.cons_append, noteAll, dif_pos ha, noteAll_snoc o l, e, List.length_cons]
    · simp only [List.cons_append, noteAll, dif_neg ha, noteAll_snoc o l, e, List.length_cons]
theorem noteAll_ok : ∀ (l : List OpD) (x : List (Ent Nm Int) × Nat) (s : Int), MapOk x.1 x.2 → MapOk (noteAll x l s).1 (noteAll x l s).2
  | [], x, s, h => h
  | a :: l, x, s, h => by
    unfold noteAll
    split
    · exact noteAll_ok l _ _ (h.put _ _)
    · exact noteAll_ok l _ _ h
theorem BookH.note {H H' : Hp} {n n' b : Nat} {N : BkN} {d : BookD} {x : List (Ent Nm Int) × Nat} (h : BookH H n b N d) (hk : Keeps H H' n [N.nn]) (hn : n ≤ n') (hm : H' N.nn = some (.map (x.1.map (Ent.me nameA intA)) x.2)) (ok : MapOk x.1 x.2) : BookH H' n' b N (d.noted x) := by
  obtain ⟨l1, l2, l3, l4⟩ := h.lt
  obtain ⟨e1, e2, e3⟩ := h.ne
  have hbn : b ≠ N.nn := fun e => by have := h.bk; rw [e, h.nt] at this; cases this
  have vn : Hv.isVar (H N.nn) = false := by rw [h.nt]; rfl
  have vars : ∀ es : List (Ent Nat Bool), VarsIn H es → (∀ e ∈ es, e.key < n) → VarsIn H' es := fun es hvs hl e he => by
    have := hvs.other vn e he
    rw [hk _ (hl e he) (by simpa using this)]; exact hvs e he
  exact ⟨(hk b l1 (by simpa using hbn)).trans h.bk, hm, (hk _ l3 (by simpa using fun e : N.no = N.nn => e1 e.symm)).trans h.op, (hk _ l4 (by simpa using fun e : N.nh = N.nn => e2 e.symm)).trans h.hd, ⟨by omega, by omega, by omega, by omega⟩, h.ne, ok, h.opOk, h.hdOk, vars _ h.opV h.opL, vars _ h.hdV h.hdL, fun e he => Nat.lt_of_lt_of_le (h.opL e he) hn, fun e he => Nat.lt_of_lt_of_le (h.hdL e he) hn, h.opT, h.hdT⟩
theorem opsL_key {es : List (Ent Nm OpD)} {clock : Nat} (hok : MapOk es clock) (hv : ∀ e ∈ es, e.val.key = e.key.1) {o : OpD} (h : o ∈ opsL es) : ∃ e ∈ es, e.val = o ∧ o.key = e.key.1 := by
  unfold opsL at h
  obtain ⟨k, hk, rfl⟩ := List.mem_map.1 h
  unfold opsS at hk
  rw [sortK_mem] at hk
  obtain ⟨e, he, rfl⟩ := List.mem_map.1 hk
  have : valOf es e.key.1 = e.val := by unfold valOf; rw [dif_pos e.key.2, mem_lookE hok.keys he]; rfl
  exact ⟨e, he, this.symm, by rw [this]; exact hv e he⟩
theorem commit_h {H : Hp} {n b p m : Nat} {N : BkN} {d : BookD} {t : TxnD} (hb : BookH H n b N d) (h : TxnH H p m t) (hp : p < n) (hm : m < n) (hmx : m ≠ N.nn ∧ m ≠ N.no ∧ m ≠ N.nh) (hl : t.over = false → lookE d.opn p = some true) (hh : lookE d.had p = some true) (seq : Int) (hs : -1000000000000000000 ≤ seq ∧ seq ≤ 1000000000000000000) :
    HCalls Try.prog 12 [.ptr b 0, .ptr p 0, .lit (.int .i64 seq)] H n fun r H' n' => r = .lit (.int .i64 (comErr d t p seq)) ∧ n ≤ n' ∧ BookH H' n' b N (comBook d t p seq) ∧ TxnH H' p m (comTxn d t p seq) ∧ Keeps H H' n [p, N.no, N.nn] := by
  refine hcallsC_of (rs := [.tmp 6]) ⟨[0, 1, 2, 6, 7, 8, 9, 46, 51, 59, 60, 61, 62], [], [], [(11, [(0, [], []), (1, [], []), (2, [], []), (3, [], []), (4, [], []), (5, [], []), (7, [], []), (8, [], []), (9, [], []), (6, [3], [5, 4]), (10, [], [3, 6, 9, 0, 1, 2, 4, 5, 7, 8])])]⟩ TOk mixed Try.func12 rfl rfl (by kernel_rfl) (by kernel_rfl) rfl ?_
  have bk := hb.bk
  have hd := hb.hd
  have tx := h.tx
  obtain ⟨i, x, g1, g2, g3, g4, hf⟩ := pfind_all (vA := boolA) hh
  have hf := hf H hb.hdV
  simp only [boolA] at hf
  by_cases c1 : seq ≤ t.start
  · simp only [push_cast, Nat.reduceBEq, Nat.reduceAdd, Nat.reduceEqDiff, reduceCtorEq, Nat.reduceLeDiff, Nat.reduceSub, Nat.reduceMul, Nat.reduceLT, Int.reduceEq, Int.reduceLT, Int.reduceLE, Int.reduceBEq, Int.reduceBNe, Int.reduceToNat, Int.reduceNeg, Int.reduceSub, Int.reduceAdd, bk, hd, tx, hf, c1, Hv.pks28]
    have e1 : comErr d t p seq = 1 := by unfold comErr; rw [if_pos (.inl c1)]
    have e2 : comBook d t p seq = d := by unfold comBook; rw [e1, if_neg (by decide), if_neg (by decide)]
    have e3 : comTxn d t p seq = t := by unfold comTxn; rw [e1, if_neg (by decide)]
    rw [e1, e2, e3]
    exact ⟨rfl, hb, h, Keeps.refl _ _ _⟩
  · by_cases c2 : seq > 72057594037927935
    · simp only [push_cast, Nat.reduceBEq, Nat.reduceAdd, Nat.reduceEqDiff, reduceCtorEq, Nat.reduceLeDiff, Nat.reduceSub, Nat.reduceMul, Nat.reduceLT, Int.reduceEq, Int.reduceLT, Int.reduceLE, Int.reduceBEq, Int.reduceBNe, Int.reduceToNat, Int.reduceNeg, Int.reduceSub, Int.reduceAdd, bk, hd, tx, hf, c1, c2, Hv.pks28]
      have e1 : comErr d t p seq = 1 := by unfold comErr; rw [if_pos (.inr (.inl c2))]
      have e2 : comBook d t p seq = d := by unfold comBook; rw [e1, if_neg (by decide), if_neg (by decide)]
      have e3 : comTxn d t p seq = t := by unfold comTxn; rw [e1, if_neg (by decide)]
      rw [e1, e2, e3]
      exact ⟨rfl, hb, h, Keeps.refl _ _ _⟩
    · simp only [push_cast, Nat.reduceBEq, Nat.reduceAdd, Nat.reduceEqDiff, reduceCtorEq, Nat.reduceLeDiff, Nat.reduceSub, Nat.reduceMul, Nat.reduceLT, Int.reduceEq, Int.reduceLT, Int.reduceLE, Int.reduceBEq, Int.reduceBNe, Int.reduceToNat, Int.reduceNeg, Int.reduceSub, Int.reduceAdd, bk, hd, tx, hf, c1, c2, Hv.pks28]
      refine callH (ops_h h hp hm) ?_
      rintro _ H1 n1 ⟨g0, rfl, ha1, hb1, hG, hnn, hk1⟩
      dsimp only at ha1 hb1 hG hnn hk1
      have hol : (opsOf t).length ≤ 200 := by
        unfold opsOf
        split
        · exact Nat.zero_le _
        · rw [opsL_len]; exact h.len
      have w1 : IntKind.i64.wrap (((opsOf t).length : Int) - 1) = ((opsOf t).length : Int) - 1 := IntWalk.i64_in _ (by omega)
      have w2 : IntKind.i64.wrap (72057594037927935 - seq) = 72057594037927935 - seq := IntWalk.i64_in _ (by omega)
      have hb1 : BookH H1 n1 b N d := hb.keeps hk1 hnn ⟨by simp, by simp, by simp, by simp⟩ (fun j hj => absurd hj List.not_mem_nil)
      have h1 : TxnH H1 p m t := h.keeps hk1 hp hm List.not_mem_nil List.not_mem_nil
      by_cases c3 : ((opsOf t).length : Int) - 1 > 72057594037927935 - seq
      · have e1 : comErr d t p seq = 1 := by unfold comErr; rw [if_pos (.inr (.inr c3))]
        have e2 : comBook d t p seq = d := by unfold comBook; rw [e1, if_neg (by decide), if_neg (by decide)]
        have e3 : comTxn d t p seq = t := by unfold comTxn; rw [e1, if_neg (by decide)]
        simp only [push_cast, Nat.reduceBEq, Nat.reduceAdd, Nat.reduceEqDiff, reduceCtorEq, Nat.reduceLeDiff, Nat.reduceSub, Nat.reduceMul, Nat.reduceLT, Int.reduceEq, Int.reduceLT, Int.reduceLE, Int.reduceBEq, Int.reduceBNe, Int.reduceToNat, Int.reduceNeg, Int.reduceSub, Int.reduceAdd, w1, w2, c3]
        rw [e1, e2, e3]
        exact ⟨rfl, hnn, hb1, h1, hk1.less (by simp)⟩
      · have c4 : ¬ (seq ≤ t.start ∨ 72057594037927935 < seq ∨ 72057594037927935 - seq < ((opsOf t).length : Int) - 1) := by omega
        have tx1 := h1.tx
        cases ho : t.over with
        | true =>
          have e1 : comErr d t p seq = 12 := by unfold comErr; rw [if_neg c4, if_pos ho]
          have e2 : comBook d t p seq = d := by unfold comBook; rw [e1, if_neg (by decide), if_neg (by decide)]
          have e3 : comTxn d t p seq = t := by unfold comTxn; rw [e1, if_neg (by decide)]
          rw [ho] at tx1
          simp only [push_cast, Nat.reduceBEq, Nat.reduceAdd, Nat.reduceEqDiff, reduceCtorEq, Nat.reduceLeDiff, Nat.reduceSub, Nat.reduceMul, Nat.reduceLT, Int.reduceEq, Int.reduceLT, Int.reduceLE, Int.reduceBEq, Int.reduceBNe, Int.reduceToNat, Int.reduceNeg, Int.reduceSub, Int.reduceAdd, w1, w2, c3, tx1]
          rw [e1, e2, e3]
          exact ⟨rfl, hnn, hb1, h1, hk1.less (by simp)⟩
        | false =>
          rw [ho] at tx1
          have hl' := hl ho
          simp only [push_cast, Nat.reduceBEq, Nat.reduceAdd, Nat.reduceEqDiff, reduceCtorEq, Nat.reduceLeDiff, Nat.reduceSub, Nat.reduceMul, Nat.reduceLT, Int.reduceEq, Int.reduceLT, Int.reduceLE, Int.reduceBEq, Int.reduceBNe, Int.reduceToNat, Int.reduceNeg, Int.reduceSub, Int.reduceAdd, w1, w2, c3, tx1]
          have hp1 : p < n1 := by omega
          have hm1 : m < n1 := by omega
          refine callH (clash_h hb1 h1 hp1 hm1) ?_
          rintro _ H2 n2 ⟨rfl, hn2, hk2⟩
          dsimp only at hn2 hk2
          have hp2 : p < n2 := by omega
          have hm2 : m < n2 := by omega
          have hb2 : BookH H2 n2 b N d := hb1.keeps hk2 hn2 ⟨by simp, by simp, by simp, by simp⟩ (fun j hj => absurd hj List.not_mem_nil)
          have h2 : TxnH H2 p m t := h1.keeps hk2 (by omega) (by omega) List.not_mem_nil List.not_mem_nil
          have hk12 : Keeps H H2 n [] := hk1.trans hk2 hnn (by simp)
          cases hc : clashB d t p with
          | true =>
            have e1 : comErr d t p seq = 11 := by unfold comErr; rw [if_neg c4, ho, if_neg (by decide), if_pos hc]
            have e2 : comBook d t p seq = d.ended p := by unfold comBook; rw [e1, if_neg (by decide), if_pos rfl]
            have e3 : comTxn d t p seq = t.ended := by unfold comTxn; rw [e1, if_pos (.inr rfl)]
            simp only [push_cast, Nat.reduceBEq, Nat.reduceAdd, Nat.reduceEqDiff, reduceCtorEq, Nat.reduceLeDiff, Nat.reduceSub, Nat.reduceMul, Nat.reduceLT, Int.reduceEq, Int.reduceLT, Int.reduceLE, Int.reduceBEq, Int.reduceBNe, Int.reduceToNat, Int.reduceNeg, Int.reduceSub, Int.reduceAdd]
            refine callH (end_h hb2 h2 hp2 hm2 hmx hl') ?_
            rintro _ H3 n2 ⟨rfl, rfl, g1, g2, g3⟩
            have g3' : Keeps H2 H3 n2 [p, N.no] := g3
            simp only [push_cast, Nat.reduceBEq, Nat.reduceAdd, Nat.reduceEqDiff, reduceCtorEq, Nat.reduceLeDiff, Nat.reduceSub, Nat.reduceMul, Nat.reduceLT, Int.reduceEq, Int.reduceLT, Int.reduceLE, Int.reduceBEq, Int.reduceBNe, Int.reduceToNat, Int.reduceNeg, Int.reduceSub, Int.reduceAdd]
            rw [e1, e2, e3]
            exact ⟨rfl, by omega, g1, g2, (hk12.less (y := [p, N.no, N.nn]) (by simp)).trans g3' (by omega) (by simp)⟩
          | false =>
            have e1 : comErr d t p seq = 0 := by unfold comErr; rw [if_neg c4, ho, if_neg (by decide), hc, if_neg (by decide)]
            have e2 : comBook d t p seq = (d.noted (noteAll (d.notes, d.nc) (opsL t.ops) seq)).ended p := by unfold comBook; rw [e1, if_pos rfl]
            have e3 : comTxn d t p seq = t.ended := by unfold comTxn; rw [e1, if_pos (.inl rfl)]
            rw [e1, e2, e3]
            have hL : opsOf t = opsL t.ops := by unfold opsOf; rw [ho]; rfl
            simp only [push_cast, Nat.reduceBEq, Nat.reduceAdd, Nat.reduceEqDiff, reduceCtorEq, Nat.reduceLeDiff, Nat.reduceSub, Nat.reduceMul, Nat.reduceLT, Int.reduceEq, Int.reduceLT, Int.reduceLE, Int.reduceBEq, Int.reduceBNe, Int.reduceToNat, Int.reduceNeg, Int.reduceSub, Int.reduceAdd]
            refine callH (ops_h h2 hp2 hm2) ?_
            rintro _ H3 n3 ⟨g3, rfl, ha3, hb3, hG3, hn3, hk3⟩
            dsimp only at ha3 hb3 hG3 hn3 hk3
            have hp3 : p < n3 := by omega
            have hm3 : m < n3 := by omega
            rw [hL] at hG3 hol c3
            obtain ⟨L, hLL⟩ : ∃ L, opsL t.ops = L := ⟨_, rfl⟩
            have hbk : BookH H3 n3 b N (d.noted (d.notes, d.nc)) := hb2.keeps hk3 hn3 ⟨by simp, by simp, by simp, by simp⟩ (fun j hj => absurd hj List.not_mem_nil)
            have h3 : TxnH H3 p m t := h2.keeps hk3 (by omega) (by omega) List.not_mem_nil List.not_mem_nil
            have hk13 : Keeps H H3 n [] := hk12.trans hk3 (by omega) (by simp)
            rw [hLL] at hG3 hol c3
            simp only [push_cast, Nat.reduceBEq, Nat.reduceAdd, Nat.reduceEqDiff, reduceCtorEq, Nat.reduceLeDiff, Nat.reduceSub, Nat.reduceMul, Nat.reduceLT, Int.reduceEq, Int.reduceLT, Int.reduceLE, Int.reduceBEq, Int.reduceBNe, Int.reduceToNat, Int.reduceNeg, Int.reduceSub, Int.reduceAdd, hL, hLL]
            refine loopK (fun q s => ∃ (k : Nat) (H6 : Hp) (n6 : Nat), s = ⟨[(0, .ptr b 0), (1, .ptr p 0), (2, .lit (.int .i64 seq)), (59, .rw g3 3 0 L.length), (60, .lit (.int .i64 (L.length : Int))), (61, .lit (.int .i64 (k : Int)))], H6, n6⟩ ∧ k ≤ L.length ∧ q = L.length - k ∧ n3 ≤ n6 ∧ BookH H6 n6 b N (d.noted (noteAll (d.notes, d.nc) (L.take k) seq)) ∧ Keeps H3 H6 n3 [N.nn]) _ [0, 1, 2, 59, 60, 61]
              ⟨0, H3, n3, rfl, Nat.zero_le _, rfl, Nat.le_refl _, hbk, Keeps.refl _ _ _⟩ ?_
            rintro q _ ⟨k, H6, n6, rfl, hk, rfl, hn6, hb6, hk6⟩
            have gn : g3 ≠ N.nn := fun e => by have := hbk.nt; rw [← e, hG3] at this; cases this
            have hG6 := hk6.to hb3 (by simpa using gn) hG3
            by_cases hkl : k < L.length
            · have hkl' : (k : Int) < (L.length : Int) := by omega
              obtain ⟨o, ho1⟩ : ∃ o, L[k]? = some o := ⟨_, List.getElem?_eq_getElem hkl⟩
              have hw := wrap_nat0 (k := k) (by omega)
              have hbl : Nat.ble L.length (L.map opI).length = true := by rw [Nat.ble_eq, List.length_map]; exact Nat.le_refl _
              have htk : (L.map opI).take L.length = L.map opI := List.take_of_length_le (by rw [List.length_map]; exact Nat.le_refl _)
              have bk6 := hb6.bk
              have nt6 := hb6.nt
              obtain ⟨e, he, hev, hek⟩ := opsL_key h.ok h.val (o := o) (by rw [hLL]; exact List.mem_of_getElem? ho1)
              have hsz : o.key.size ≤ 64 := by rw [hek]; exact e.key.2
              have ws : IntKind.i64.wrap (seq + (k : Int)) = seq + k := IntWalk.i64_in _ (by omega)
              have q1 : (n6 == b) = false := nb (by have := hb6.lt.1; omega)
              have q2 : (n6 == N.nn) = false := nb (by have := hb6.lt.2.1; omega)
              simp only [push_cast, Nat.reduceBEq, Nat.reduceAdd, Nat.reduceEqDiff, reduceCtorEq, Nat.reduceLeDiff, Nat.reduceSub, Nat.reduceMul, Nat.reduceLT, Int.reduceEq, Int.reduceLT, Int.reduceLE, Int.reduceBEq, Int.reduceBNe, Int.reduceToNat, Int.reduceNeg, Int.reduceSub, Int.reduceAdd, hkl, hkl', hG6, hbl, htk, ho1, opI, hw, bk6, nt6, q1, q2]
              refine callD (named_h ⟨o.key, hsz⟩) ?_
              have hkm := kind_name ⟨o.key, hsz⟩
              simp only [Hv.keyKind, Hv.keys65] at hkm
              have hsn := noteAll_snoc o (L.take k) (d.notes, d.nc) seq
              have htl : (L.take k).length = k := by rw [List.length_take]; omega
              rw [dif_pos hsz, htl] at hsn
              have htk1 : L.take (k + 1) = L.take k ++ [o] := by rw [List.take_add_one, ho1]; rfl
              have hokX : MapOk (noteAll (d.notes, d.nc) (L.take k) seq).1 (noteAll (d.notes, d.nc) (L.take k) seq).2 := hb6.ntOk
              obtain ⟨X, hX⟩ : ∃ X, noteAll (d.notes, d.nc) (L.take k) seq = X := ⟨_, rfl⟩
              rw [hX] at hsn hokX nt6 hb6
              have nt6' : H6 N.nn = some (.map (X.1.map (Ent.me nameA intA)) X.2) := nt6
              have hput := hokX.put ⟨o.key, hsz⟩ (seq + k)
              cases hln : lookE X.1 ⟨o.key, hsz⟩ with
              | none =>
                have hf := mfind_no (kA := nameA) (vA := intA) keyOk_name hln
                simp only [nameA] at hf
                simp only [push_cast, Nat.reduceBEq, Nat.reduceAdd, Nat.reduceEqDiff, reduceCtorEq, Nat.reduceLeDiff, Nat.reduceSub, Nat.reduceMul, Nat.reduceLT, Int.reduceEq, Int.reduceLT, Int.reduceLE, Int.reduceBEq, Int.reduceBNe, Int.reduceToNat, Int.reduceNeg, Int.reduceSub, Int.reduceAdd, hf, hkm, bk6, nt6', q1, q2, ws, hw]
                refine ⟨_, by omega, k + 1, _, n6 + 1, rfl, by omega, rfl, by omega, ?_, ((hk6.new (by omega)).new (by omega)).put (by simp)⟩
                rw [htk1, hsn, put_new _ hln]
                have hb7 := hb6.note (x := (X.1 ++ [⟨⟨o.key, hsz⟩, seq + k, X.2⟩], X.2 + 1)) (((Keeps.refl H6 n6 [N.nn]).new (i := n6) (o := some (AO.cells [AV.lit (Value.int IntKind.i64 0), AV.lit (Value.string ⟨#[]⟩), AV.lit (Value.string ⟨#[]⟩)])) (Nat.le_refl _)).new (i := n6) (o := some (AO.cells [AV.lit (Value.int IntKind.i64 o.kind), AV.lit (Value.string o.key), AV.lit (Value.string o.val)])) (Nat.le_refl _) |>.put (i := N.nn) (o := some (.map (X.1.map (Ent.me nameA intA) ++ [⟨.agg (nameC o.key), .lit (.int .i64 (seq + k)), X.2⟩]) (X.2 + 1))) (by simp)) (Nat.le_succ n6) (by rw [upd_same]; exact congrArg (fun l => some (AO.map l (X.2 + 1))) (snoc_me (kA := nameA) (vA := intA) X.1 ⟨o.key, hsz⟩ (seq + k) X.2)) (by rw [put_new _ hln] at hput; exact hput)
                exact hb7
              | some z =>
                obtain ⟨i, x, f1, f2, f3, f4, hf⟩ := mfind_yes (kA := nameA) (vA := intA) keyOk_name hln
                simp only [nameA] at hf
                simp only [push_cast, Nat.reduceBEq, Nat.reduceAdd, Nat.reduceEqDiff, reduceCtorEq, Nat.reduceLeDiff, Nat.reduceSub, Nat.reduceMul, Nat.reduceLT, Int.reduceEq, Int.reduceLT, Int.reduceLE, Int.reduceBEq, Int.reduceBNe, Int.reduceToNat, Int.reduceNeg, Int.reduceSub, Int.reduceAdd, hf, hkm, bk6, nt6', q1, q2, f2, ws, hw]
                refine ⟨_, by omega, k + 1, _, n6 + 1, rfl, by omega, rfl, by omega, ?_, ((hk6.new (by omega)).new (by omega)).put (by simp)⟩
                rw [htk1, hsn, put_old _ f1 f2]
                have hb7 := hb6.note (x := (X.1.set i ⟨⟨o.key, hsz⟩, seq + k, x.born⟩, X.2)) (((Keeps.refl H6 n6 [N.nn]).new (i := n6) (o := some (AO.cells [AV.lit (Value.int IntKind.i64 0), AV.lit (Value.string ⟨#[]⟩), AV.lit (Value.string ⟨#[]⟩)])) (Nat.le_refl _)).new (i := n6) (o := some (AO.cells [AV.lit (Value.int IntKind.i64 o.kind), AV.lit (Value.string o.key), AV.lit (Value.string o.val)])) (Nat.le_refl _) |>.put (i := N.nn) (o := some (.map ((X.1.map (Ent.me nameA intA)).set i ⟨.agg (nameC o.key), .lit (.int .i64 (seq + k)), (Ent.me nameA intA x).born⟩) X.2)) (by simp)) (Nat.le_succ n6) (by rw [upd_same]; exact congrArg (fun l => some (AO.map l X.2)) (by rw [List.map_set]; rfl)) (by rw [put_old _ f1 f2] at hput; exact hput)
                exact hb7
            · simp only [push_cast, Nat.reduceBEq, Nat.reduceAdd, Nat.reduceEqDiff, reduceCtorEq, Nat.reduceLeDiff, Nat.reduceSub, Nat.reduceMul, Nat.reduceLT, Int.reduceEq, Int.reduceLT, Int.reduceLE, Int.reduceBEq, Int.reduceBNe, Int.reduceToNat, Int.reduceNeg, Int.reduceSub, Int.reduceAdd, hkl]
              obtain rfl : k = L.length := by omega
              rw [List.take_length] at hb6
              have hpn : p ≠ N.nn := fun e => by have := hbk.nt; rw [← e, h3.tx] at this; cases this
              have h6 : TxnH H6 p m t := h3.keeps hk6 hp3 hm3 (by simpa using hpn) (by simpa using hmx.1)
              have hp6 : p < n6 := by omega
              have hm6 : m < n6 := by omega
              refine callH (end_h hb6 h6 hp6 hm6 hmx hl') ?_
              rintro _ H7 n6 ⟨rfl, rfl, g1, g2, g4⟩
              have g4' : Keeps H6 H7 n6 [p, N.no] := g4
              simp only [push_cast, Nat.reduceBEq, Nat.reduceAdd, Nat.reduceEqDiff, reduceCtorEq, Nat.reduceLeDiff, Nat.reduceSub, Nat.reduceMul, Nat.reduceLT, Int.reduceEq, Int.reduceLT, Int.reduceLE, Int.reduceBEq, Int.reduceBNe, Int.reduceToNat, Int.reduceNeg, Int.reduceSub, Int.reduceAdd]
              exact ⟨by omega, g1, g2, (hk13.less (by simp)).trans (hk6.less (y := [p, N.no, N.nn]) (by simp)) (by omega) (by simp) |>.trans (g4'.less (y := [p, N.no, N.nn]) (by simp)) (by omega) (by simp)⟩
end Go.Proofs.Ytnaiaacgcjikiaa
