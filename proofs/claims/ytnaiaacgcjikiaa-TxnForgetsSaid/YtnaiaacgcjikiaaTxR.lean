/- Transactions: how books and transactions lie in the heap. -/
import Derived.Test.YtnaiaacgcjikiaaTxN
set_option linter.unusedVariables false
set_option linter.unusedSimpArgs false
namespace Go.Proofs.Ytnaiaacgcjikiaa
open Go Go.RowKit Hv
set_option maxRecDepth 20000
set_option maxHeartbeats 4000000
structure TxnD where
  start : Int
  over : Bool
  ops : List (Ent Nm OpD)
  oc : Nat
structure BookD where
  notes : List (Ent Nm Int)
  nc : Nat
  opn : List (Ent Nat Bool)
  oc : Nat
  had : List (Ent Nat Bool)
  hc : Nat
/-- The numbers of a book's maps. -/
structure BkN where
  nn : Nat
  no : Nat
  nh : Nat
def ptrA (i : Nat) : AV := .ptr i 0
def boolA (b : Bool) : AV := .lit (.bool b)
/-- These are variables. -/
def VarsIn {ν : Type} (H : Hp) (es : List (Ent Nat ν)) : Prop := ∀ e ∈ es, Hv.isVar (H e.key) = true
theorem varsIn_upd {ν : Type} {H : Hp} {j : Nat} {o : Option AO} {es : List (Ent Nat ν)} (h : ∀ e ∈ es, e.key ≠ j) : VarsIn (upd H j o) es = VarsIn H es := by
  apply propext
  constructor
  · intro hv e he
    have := hv e he
    rwa [upd_other (fun x => h e he x.symm)] at this
  · intro hv e he
    rw [upd_other (fun x => h e he x.symm)]
    exact hv e he
theorem VarsIn.other {ν : Type} {H : Hp} {j : Nat} {es : List (Ent Nat ν)} (h : VarsIn H es) (hj : Hv.isVar (H j) = false) : ∀ e ∈ es, e.key ≠ j := fun e he x => by
  have := h e he
  rw [x, hj] at this; cases this
structure BookH (H : Hp) (n b : Nat) (N : BkN) (d : BookD) : Prop where
  bk : H b = some (.cells [.mp N.nn, .mp N.no, .mp N.nh])
  nt : H N.nn = some (.map (d.notes.map (Ent.me nameA intA)) d.nc)
  op : H N.no = some (.map (d.opn.map (Ent.me ptrA boolA)) d.oc)
  hd : H N.nh = some (.map (d.had.map (Ent.me ptrA boolA)) d.hc)
  lt : b < n ∧ N.nn < n ∧ N.no < n ∧ N.nh < n
  ne : N.nn ≠ N.no ∧ N.nn ≠ N.nh ∧ N.no ≠ N.nh
  ntOk : MapOk d.notes d.nc
  opOk : MapOk d.opn d.oc
  hdOk : MapOk d.had d.hc
  opV : VarsIn H d.opn
  hdV : VarsIn H d.had
  opL : ∀ e ∈ d.opn, e.key < n
  hdL : ∀ e ∈ d.had, e.key < n
  opT : ∀ e ∈ d.opn, e.val = true
  hdT : ∀ e ∈ d.had, e.val = true
structure TxnH (H : Hp) (p m : Nat) (t : TxnD) : Prop where
  tx : H p = some (.cells [.lit (.int .i64 t.start), .lit (.bool t.over), .mp m])
  ops : H m = some (.map (t.ops.map (Ent.me nameA opA)) t.oc)
  ok : MapOk t.ops t.oc
  val : ∀ e ∈ t.ops, e.val.key = e.key.1
  len : t.ops.length ≤ 200
theorem pfind_me {H : Hp} {ν : Type} (vA : ν → AV) (p : Nat) : ∀ (es : List (Ent Nat ν)) (i : Nat), VarsIn H es → gfind (keyPtr H p 0) (es.map (Ent.me ptrA vA)) i = some (match findE es p, lookE es p with
    | some j, some v => some (i + j, vA v)
    | _, _ => none)
  | [], i, _ => rfl
  | e :: es, i, hv => by
    have hq : keyPtr H p 0 (ptrA e.key) = some (decide (p = e.key)) := by
      simp only [ptrA, keyPtr, hv e List.mem_cons_self, cond_true]
      congr 1
      rw [Bool.eq_iff_iff]
      simp
    simp only [List.map_cons, gfind, Ent.me, hq]
    by_cases h : p = e.key
    · simp [findE, lookE, List.findIdx?_cons, List.find?_cons, h]
    · have hd : decide (p = e.key) = false := decide_eq_false h
      have ih := pfind_me (H := H) vA p es (i + 1) fun x hx => hv x (List.mem_cons_of_mem _ hx)
      simp only [hd, ih]
      have e1 : findE (e :: es) p = (findE es p).map (· + 1) := by simp [findE, List.findIdx?_cons, hd]
      have e2 : lookE (e :: es) p = lookE es p := by simp [lookE, List.find?_cons, hd]
      rw [e1, e2]
      cases findE es p with
      | none => rfl
      | some j =>
        cases lookE es p with
        | none => rfl
        | some v => simp [Nat.add_assoc, Nat.add_comm 1 j]
theorem pfind_no {H : Hp} {ν : Type} {vA : ν → AV} {p : Nat} {es : List (Ent Nat ν)} (hv : VarsIn H es) (h : lookE es p = none) : gfind (keyPtr H p 0) (es.map (Ent.me ptrA vA)) 0 = some none := by
  rw [pfind_me vA p es 0 hv, h]
  cases findE es p <;> rfl
theorem pfind_yes {H : Hp} {ν : Type} {vA : ν → AV} {p : Nat} {v : ν} {es : List (Ent Nat ν)} (hv : VarsIn H es) (h : lookE es p = some v) : ∃ i x, findE es p = some i ∧ es[i]? = some x ∧ x.key = p ∧ x.val = v ∧ gfind (keyPtr H p 0) (es.map (Ent.me ptrA vA)) 0 = some (some (i, vA v)) := by
  rcases find_cases es p with ⟨_, h2, _⟩ | ⟨i, x, h1, h2, h3, h4, _⟩
  · rw [h2] at h; cases h
  · rw [h4] at h
    injection h with h
    refine ⟨i, x, h1, h2, h3, h, ?_⟩
    rw [pfind_me vA p es 0 hv, h1, h4]
    simp [h]
/-- Of the objects below n only those of x are changed. -/
def Keeps (H H' : Hp) (n : Nat) (x : List Nat) : Prop := ∀ j, j < n → j ∉ x → H' j = H j
theorem Keeps.refl (H : Hp) (n : Nat) (x : List Nat) : Keeps H H n x := fun _ _ _ => rfl
theorem Keeps.new {H H' : Hp} {n : Nat} {x : List Nat} {i : Nat} {o : Option AO} (h : Keeps H H' n x) (hi : n ≤ i) : Keeps H (upd H' i o) n x := fun j hj hx => (upd_other (by omega)).trans (h j hj hx)
theorem Keeps.put {H H' : Hp} {n : Nat} {x : List Nat} {i : Nat} {o : Option AO} (h : Keeps H H' n x) (hi : i ∈ x) : Keeps H (upd H' i o) n x := fun j hj hx => (upd_other (fun e : i = j => hx (by rw [← e]; exact hi))).trans (h j hj hx)
theorem Keeps.trans {H H' H'' : Hp} {n n' : Nat} {x y : List Nat} (h : Keeps H H' n x) (h' : Keeps H' H'' n' y) (hn : n ≤ n') (hy : ∀ i ∈ y, i < n → i ∈ x) : Keeps H H'' n x := fun j hj hx => (h' j (by omega) fun hm => hx (hy j hm hj)).trans (h j hj hx)
theorem Keeps.less {H H' : Hp} {n : Nat} {x y : List Nat} (h : Keeps H H' n x) (hy : ∀ i ∈ x, i ∈ y) : Keeps H H' n y := fun j hj hx => h j hj fun hm => hx (hy j hm)
theorem Keeps.to {H H' : Hp} {n : Nat} {x : List Nat} (h : Keeps H H' n x) {i : Nat} {o : Option AO} (hi : i < n) (hx : i ∉ x) (ho : H i = o) : H' i = o := (h i hi hx).trans ho
theorem stamp_find {κ ν : Type} {kA : κ → AV} {vA : ν → AV} {es : List (Ent κ ν)} {clock : Nat} (h : ∀ x ∈ es, x.born < clock) (k v : AV) : List.findIdx? (fun e : ME => (e.born : Int) == (clock : Int)) (es.map (Ent.me kA vA) ++ [⟨k, v, clock⟩]) = some es.length := by
  rw [List.findIdx?_append]
  have : List.findIdx? (fun e : ME => (e.born : Int) == (clock : Int)) (es.map (Ent.me kA vA)) = none := by
    rw [List.findIdx?_eq_none_iff]
    intro x hx
    obtain ⟨y, hy, rfl⟩ := List.mem_map.1 hx
    have := h y hy
    simp only [Ent.me, beq_eq_false_iff_ne, ne_eq]
    omega
  rw [this]
  simp [List.findIdx?_cons]
theorem stamp_get {κ ν : Type} {kA : κ → AV} {vA : ν → AV} (es : List (Ent κ ν)) (x : ME) : (es.map (Ent.me kA vA) ++ [x])[es.length]? = some x := by
  rw [List.getElem?_append_right (by rw [List.length_map]; exact Nat.le_refl _), List.length_map, Nat.sub_self]; rfl
theorem stamp_set {κ ν : Type} {kA : κ → AV} {vA : ν → AV} (es : List (Ent κ ν)) (x y : ME) : (es.map (Ent.me kA vA) ++ [x]).set es.length y = es.map (Ent.me kA vA) ++ [y] := by
  have : es.length = (es.map (Ent.me kA vA)).length := by rw [List.length_map]
  rw [this, List.set_append_right _ _ (Nat.le_refl _), Nat.sub_self]; rfl
theorem snoc_me {κ ν : Type} {kA : κ → AV} {vA : ν → AV} (es : List (Ent κ ν)) (k : κ) (v : ν) (c : Nat) : es.map (Ent.me kA vA) ++ [(⟨kA k, vA v, c⟩ : ME)] = (es ++ [(⟨k, v, c⟩ : Ent κ ν)]).map (Ent.me kA vA) := by rw [List.map_append]; rfl
theorem mapOk_snoc {κ ν : Type} [DecidableEq κ] {es : List (Ent κ ν)} {c : Nat} (h : MapOk es c) {k : κ} (hk : ∀ e ∈ es, e.key ≠ k) (v : ν) : MapOk (es ++ [⟨k, v, c⟩]) (c + 1) := by
  have := h.put k v
  rw [put_new v (lookE_none.2 hk)] at this
  exact this
theorem BookH.keeps {H H' : Hp} {n n' b : Nat} {N : BkN} {d : BookD} {x : List Nat} (h : BookH H n b N d) (hk : Keeps H H' n x) (hn : n ≤ n') (hx : b ∉ x ∧ N.nn ∉ x ∧ N.no ∉ x ∧ N.nh ∉ x) (hv : ∀ j ∈ x, Hv.isVar (H j) = true → Hv.isVar (H' j) = true) : BookH H' n' b N d := by
  obtain ⟨l1, l2, l3, l4⟩ := h.lt
  have vars : ∀ es : List (Ent Nat Bool), VarsIn H es → (∀ e ∈ es, e.key < n) → VarsIn H' es := fun es hvs hl e he => by
    by_cases hm : e.key ∈ x
    · exact hv _ hm (hvs e he)
    · rw [hk _ (hl e he) hm]; exact hvs e he
  exact ⟨(hk b l1 hx.1).trans h.bk, (hk _ l2 hx.2.1).trans h.nt, (hk _ l3 hx.2.2.1).trans h.op, (hk _ l4 hx.2.2.2).trans h.hd, ⟨by omega, by omega, by omega, by omega⟩, h.ne, h.ntOk, h.opOk, h.hdOk, vars _ h.opV h.opL, vars _ h.hdV h.hdL, fun e he => Nat.lt_of_lt_of_le (h.opL e he) hn, fun e he => Nat.lt_of_lt_of_le (h.hdL e he) hn, h.opT, h.hdT⟩
def bookNew : BookD := ⟨[], 0, [], 0, [], 0⟩
theorem new_h {H : Hp} {n : Nat} : HCalls Try.prog 7 [] H n fun r H' n' => r = .ptr (n + 3) 0 ∧ n' = n + 4 ∧ BookH H' (n + 4) (n + 3) ⟨n, n + 1, n + 2⟩ bookNew ∧ Keeps H H' n [] := by
  refine hcallsC_of (rs := [.tmp 0]) ⟨[0], [], [], []⟩ TOk mixed Try.func7 rfl rfl (by kernel_rfl) (by kernel_rfl) rfl ?_
  simp only [push_cast, Nat.reduceBEq, Nat.reduceAdd, Nat.reduceEqDiff, reduceCtorEq, Nat.reduceLeDiff, Nat.reduceSub, Nat.reduceMul, Nat.reduceLT, Int.reduceEq, Int.reduceLT, Int.reduceLE, Int.reduceBEq, Int.reduceBNe, Int.reduceToNat, Int.reduceNeg, Int.reduceSub, Int.reduceAdd]
  have no : ∀ {p : Ent Nat Bool → Prop}, ∀ e ∈ ([] : List (Ent Nat Bool)), p e := fun e h => absurd h List.not_mem_nil
  refine ⟨⟨upd_same _ _ _, ?_, ?_, ?_, ⟨by omega, by show n < n + 4; omega, by show n + 1 < n + 4; omega, by show n + 2 < n + 4; omega⟩, ⟨by show n ≠ n + 1; omega, by show n ≠ n + 2; omega, by show n + 1 ≠ n + 2; omega⟩, MapOk.nil, MapOk.nil, MapOk.nil, no, no, no, no, no, no⟩, ((((Keeps.refl _ _ _).new (by omega)).new (by omega)).new (by omega)).new (by omega)⟩
  · show upd _ _ _ n = _
    rw [upd_other (by omega), upd_other (by omega), upd_other (by omega), upd_same]; rfl
  · show upd _ _ _ (n + 1) = _
    rw [upd_other (by omega), upd_other (by omega), upd_same]; rfl
  · show upd _ _ _ (n + 2) = _
    rw [upd_other (by omega), upd_same]; rfl
/-- A book behind a transaction begun. -/
def BookD.begun (d : BookD) (p : Nat) : BookD := ⟨d.notes, d.nc, d.opn ++ [⟨p, true, d.oc⟩], d.oc + 1, d.had ++ [⟨p, true, d.hc⟩], d.hc + 1⟩
theorem begin_h {H : Hp} {n b : Nat} {N : BkN} {d : BookD} (h : BookH H n b N d) (seq : Int) (hs : 0 ≤ seq ∧ seq ≤ 72057594037927935) (hlen : d.opn.length < 16) : HCalls Try.prog 8 [.ptr b 0, .lit (.int .i64 seq)] H n fun r H' n' =>
    r = .tup [.ptr (n + 1) 0, .lit (.int .i64 0)] ∧ n' = n + 2 ∧ BookH H' (n + 2) b N (d.begun (n + 1)) ∧ TxnH H' (n + 1) n ⟨seq, false, [], 0⟩ ∧ Keeps H H' n [N.no, N.nh] := by
  refine hcallsC_of (rs := [.tmp 4, .tmp 5]) ⟨[0, 1, 4, 5, 6, 7, 18], [], [], [(6, [(0, [], []), (1, [], []), (2, [], []), (3, [], []), (4, [], []), (5, [], []), (6, [], []), (7, [], []), (8, [], []), (9, [], []), (10, [], [3, 4, 8, 2, 7, 1, 6, 0, 5]), (11, [], []), (12, [], [3, 11, 10, 0, 1, 2, 4, 8, 7, 6, 5]), (13, [], [8, 9, 12, 0, 1, 2, 3, 4, 10, 11, 7, 6, 5]), (14, [], []), (15, [], [8, 14, 13, 0, 1, 2, 3, 4, 5, 6, 7, 9, 10, 11, 12])])]⟩ TOk mixed Try.func8 rfl rfl (by kernel_rfl) (by kernel_rfl) rfl ?_
  have bk := h.bk; have nt := h.nt; have op := h.op; have hd := h.hd
  obtain ⟨l1, l2, l3, l4⟩ := h.lt
  obtain ⟨e1, e2, e3⟩ := h.ne
  have f1 : ¬ seq < 0 := by omega
  have f2 : ¬ seq > 72057594037927935 := by omega
  have f3 : ¬ (d.opn.length : Int) ≥ 16 := by omega
  have q1 : (n == b) = false := nb (by omega)
  have q2 : (n + 1 == b) = false := nb (by omega)
  have q3 : (n == N.no) = false := nb (by omega)
  have q4 : (n + 1 == N.no) = false := nb (by omega)
  have q5 : (n == N.nh) = false := nb (by omega)
  have q6 : (n + 1 == N.nh) = false := nb (by omega)
  have q7 : (N.no == N.nh) = false := nb e3
  have q8 : (N.no == n + 1) = false := nb (by omega)
  have q9 : (N.no == b) = false := nb fun e => by rw [← e, op] at bk; cases bk
  have vo : Hv.isVar (H N.no) = false := by rw [op]; rfl
  have vh : Hv.isVar (H N.nh) = false := by rw [hd]; rfl
  have a1 : ∀ H' o, VarsIn (upd H' n o) d.opn = VarsIn H' d.opn := fun H' o => varsIn_upd fun e he => by have := h.opL e he; omega
  have a2 : ∀ H' o, VarsIn (upd H' (n + 1) o) d.opn = VarsIn H' d.opn := fun H' o => varsIn_upd fun e he => by have := h.opL e he; omega
  have a3 : ∀ H' o, VarsIn (upd H' n o) d.had = VarsIn H' d.had := fun H' o => varsIn_upd fun e he => by have := h.hdL e he; omega
  have a4 : ∀ H' o, VarsIn (upd H' (n + 1) o) d.had = VarsIn H' d.had := fun H' o => varsIn_upd fun e he => by have := h.hdL e he; omega
  have a5 : ∀ H' o, VarsIn (upd H' N.no o) d.had = VarsIn H' d.had := fun H' o => varsIn_upd (h.hdV.other vo)
  have no1 : lookE d.opn (n + 1) = none := lookE_none.2 fun e he x => by have := h.opL e he; omega
  have no2 : lookE d.had (n + 1) = none := lookE_none.2 fun e he x => by have := h.hdL e he; omega
  have g1 : ∀ H', VarsIn H' d.opn → gfind (keyPtr H' (n + 1) 0) (d.opn.map (Ent.me ptrA boolA)) 0 = some none := fun H' hv => pfind_no hv no1
  have g2 : ∀ H', VarsIn H' d.had → gfind (keyPtr H' (n + 1) 0) (d.had.map (Ent.me ptrA boolA)) 0 = some none := fun H' hv => pfind_no hv no2
  have b1 := eq_true h.opV
  have b2 := eq_true h.hdV
  have s1 : ∀ v, List.findIdx? (fun e : ME => (e.born : Int) == (d.oc : Int)) (d.opn.map (Ent.me ptrA boolA) ++ [⟨.ptr (n + 1) 0, v, d.oc⟩]) = some d.opn.length := fun v => stamp_find h.opOk.lt _ v
  have s2 : ∀ v, List.findIdx? (fun e : ME => (e.born : Int) == (d.hc : Int)) (d.had.map (Ent.me ptrA boolA) ++ [⟨.ptr (n + 1) 0, v, d.hc⟩]) = some d.had.length := fun v => stamp_find h.hdOk.lt _ v
  have s3 := stamp_get (kA := ptrA) (vA := boolA) d.opn
  have s4 := stamp_get (kA := ptrA) (vA := boolA) d.had
  have s5 := stamp_set (kA := ptrA) (vA := boolA) d.opn
  have s6 := stamp_set (kA := ptrA) (vA := boolA) d.had
  simp only [push_cast, Nat.reduceBEq, Nat.reduceAdd, Nat.reduceEqDiff, reduceCtorEq, Nat.reduceLeDiff, Nat.reduceSub, Nat.reduceMul, Nat.reduceLT, Int.reduceEq, Int.reduceLT, Int.reduceLE, Int.reduceBEq, Int.reduceBNe, Int.reduceToNat, Int.reduceNeg, Int.reduceSub, Int.reduceAdd, bk, nt, op, hd, f1, f2, f3, Hv.nbq0_1, Hv.nbq1_0, q1, q2, q3, q4, q5, q6, q7, q8, q9, a1, a2, a3, a4, a5, b1, b2, g1, g2, s1, s2, s3, s4, s5, s6, Hv.pks28]
  have n1 : N.nh ≠ n + 1 := by omega
  have kO : ∀ e ∈ d.opn, e.key ≠ n + 1 := fun e he x => by have := h.opL e he; omega
  have kH : ∀ e ∈ d.had, e.key ≠ n + 1 := fun e he x => by have := h.hdL e he; omega
  have mO : ∀ e ∈ (d.begun (n + 1)).opn, e ∈ d.opn ∨ e = ⟨n + 1, true, d.oc⟩ := fun e he => by
    rcases List.mem_append.1 he with he | he
    · exact .inl he
    · exact .inr (List.mem_singleton.1 he)
  have mH : ∀ e ∈ (d.begun (n + 1)).had, e ∈ d.had ∨ e = ⟨n + 1, true, d.hc⟩ := fun e he => by
    rcases List.mem_append.1 he with he | he
    · exact .inl he
    · exact .inr (List.mem_singleton.1 he)
  have vars : ∀ (es : List (Ent Nat Bool)) (o1 o2 o3 o4 : Option AO), VarsIn H es → (∀ e ∈ es, e.key < n) → VarsIn (upd (upd (upd (upd (upd (upd H n (some (AO.map [] 0))) (n + 1) (some (AO.cells [AV.lit (Value.int IntKind.i64 seq), AV.lit (Value.bool false), AV.mp n]))) N.no o1) N.no o2) N.nh o3) N.nh o4) es := fun es o1 o2 o3 o4 hv hl e he => by
    have h1 := hv.other vo e he
    have h2 := hv.other vh e he
    have h3 := hl e he
    rw [upd_other (fun x => h2 x.symm), upd_other (fun x => h2 x.symm), upd_other (fun x => h1 x.symm), upd_other (fun x => h1 x.symm), upd_other (by omega), upd_other (by omega)]
    exact hv e he
  refine ⟨⟨?_, ?_, ?_, ?_, ⟨by omega, by omega, by omega, by omega⟩, ⟨e1, e2, e3⟩, h.ntOk, mapOk_snoc h.opOk kO _, mapOk_snoc h.hdOk kH _, fun e he => ?_, fun e he => ?_, fun e he => ?_, fun e he => ?_, fun e he => ?_, fun e he => ?_⟩, ⟨?_, ?_, MapOk.nil, fun e he => absurd he List.not_mem_nil, Nat.zero_le _⟩, ((((((Keeps.refl _ _ _).new (Nat.le_refl _)).new (by omega)).put (by simp)).put (by simp)).put (by simp)).put (by simp)⟩
  · have hb : N.nh ≠ b := fun e => by rw [← e, hd] at bk; cases bk
    have hb2 : N.no ≠ b := fun e => by rw [← e, op] at bk; cases bk
    repeat rw [upd_other (by omega)]
    exact bk
  · repeat rw [upd_other (by omega)]
    exact nt
  · rw [upd_other (by omega), upd_other (by omega), upd_same]
    exact congrArg (fun l => some (AO.map l (d.oc + 1))) (snoc_me (kA := ptrA) (vA := boolA) d.opn (n + 1) true d.oc)
  · rw [upd_same]
    exact congrArg (fun l => some (AO.map l (d.hc + 1))) (snoc_me (kA := ptrA) (vA := boolA) d.had (n + 1) true d.hc)
  · rcases mO e he with he | rfl
    · exact vars d.opn _ _ _ _ h.opV h.opL e he
    · show Hv.isVar (upd _ _ _ (n + 1)) = true
      rw [upd_other (by omega), upd_other (by omega), upd_other (by omega), upd_other (by omega), upd_same]; rfl
  · rcases mH e he with he | rfl
    · exact vars d.had _ _ _ _ h.hdV h.hdL e he
    · show Hv.isVar (upd _ _ _ (n + 1)) = true
      rw [upd_other (by omega), upd_other (by omega), upd_other (by omega), upd_other (by omega), upd_same]; rfl
  · rcases mO e he with he | rfl
    · have := h.opL e he; omega
    · exact Nat.lt_succ_self _
  · rcases mH e he with he | rfl
    · have := h.hdL e he; omega
    · exact Nat.lt_succ_self _
  · rcases mO e he with he | rfl
    · exact h.opT e he
    · rfl
  · rcases mH e he with he | rfl
    · exact h.hdT e he
    · rfl
  · rw [upd_other (by omega), upd_other (by omega), upd_other (by omega), upd_other (by omega), upd_same]
  · repeat rw [upd_other (by omega)]
    rw [upd_same]; rfl
end Go.Proofs.Ytnaiaacgcjikiaa
