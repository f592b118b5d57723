/- Transactions: Looks, and Begin of a book that is full; by the walk over a heap. -/
import Derived.Test.YtnaiaacgcjikiaaTxS
import Derived.Test.YtnaiaacgcjikiaaKsIB
set_option linter.unusedVariables false
set_option linter.unusedSimpArgs false
namespace Go.Proofs.Ytnaiaacgcjikiaa
open Go Go.RowKit Hv
set_option maxRecDepth 20000
set_option maxHeartbeats 4000000
theorem pig {α : Type} [DecidableEq α] : ∀ {a b : List α}, a.Nodup → (∀ x ∈ a, x ∈ b) → b.length ≤ a.length → ∀ x ∈ b, x ∈ a
  | [], b, _, _, hl, x, hx => by
    have : b = [] := List.eq_nil_of_length_eq_zero (Nat.le_zero.1 hl)
    rw [this] at hx; cases hx
  | y :: a, b, hn, hs, hl, x, hx => by
    by_cases hxy : x = y
    · rw [hxy]; exact List.mem_cons_self
    · have hy : y ∈ b := hs y List.mem_cons_self
      have hle := List.length_erase_of_mem hy
      have hpos := List.length_pos_of_mem hy
      simp only [List.length_cons] at hl
      refine List.mem_cons_of_mem _ (pig (List.nodup_cons.1 hn).2 (b := b.erase y) (fun z hz => ?_) (by omega) x ((List.mem_erase_of_ne hxy).2 hx))
      have hzy : z ≠ y := fun e => (List.nodup_cons.1 hn).1 (e ▸ hz)
      exact (List.mem_erase_of_ne hzy).2 (hs z (List.mem_cons_of_mem _ hz))
/-- The starts of the open ones, rising. -/
structure LooksL (D : SysD) (l : List Int) : Prop where
  rise : l.Pairwise (· < ·)
  mem : ∀ z, z ∈ l ↔ ∃ t ∈ D.txns, t.over = false ∧ t.start = z
def StartAt (H : Hp) (p : Nat) (z : Int) : Prop := ∃ (o : Bool) (m : Nat), H p = some (.cells [.lit (.int .i64 z), .lit (.bool o), .mp m])
theorem StartAt.uniq {H : Hp} {p : Nat} {z z' : Int} (h : StartAt H p z) (h' : StartAt H p z') : z = z' := by
  obtain ⟨o, m, h⟩ := h
  obtain ⟨o', m', h'⟩ := h'
  rw [h] at h'
  injection h' with h'
  injection h' with h'
  simp only [List.cons.injEq, AV.lit.injEq, Value.int.injEq] at h'
  exact h'.1.2
theorem TxnH.startAt {H : Hp} {p m : Nat} {t : TxnD} (h : TxnH H p m t) : StartAt H p t.start := ⟨_, _, h.tx⟩
section
variable {H : Hp} {n b : Nat} {S : Nat → Prop} {Ps : List (Nat × Nat)} {D : SysD}
theorem zip_at {α β : Type} {a : List α} {b : List β} {q : α × β} (h : q ∈ a.zip b) : ∃ i : Nat, a[i]? = some q.1 ∧ b[i]? = some q.2 := by
  obtain ⟨i, hi⟩ := List.mem_iff_getElem?.1 h
  exact ⟨i, (List.getElem?_zip_eq_some.1 hi)⟩
theorem opn_all (h : Sys H n S b Ps D) {d : BookD} (hok : MapOk d.opn d.oc) (h7 : ∀ (i : Nat) (x : Nat × Nat) (t : TxnD), Ps[i]? = some x → D.txns[i]? = some t → lookE d.opn x.1 = if t.over then none else some true) (h8 : d.opn.length = openN D) :
    ∀ e ∈ d.opn, ∃ (i : Nat) (x : Nat × Nat) (t : TxnD), Ps[i]? = some x ∧ D.txns[i]? = some t ∧ t.over = false ∧ x.1 = e.key := by
  intro e he
  have hl := h.len
  have e1 : (Ps.zip D.txns).map Prod.fst = Ps := List.map_fst_zip (by omega)
  have e2 : (Ps.zip D.txns).map Prod.snd = D.txns := List.map_snd_zip (by omega)
  obtain ⟨A, hA⟩ : ∃ A, A = ((Ps.zip D.txns).filter fun q => !q.2.over).map fun q => q.1.1 := ⟨_, rfl⟩
  have hnd : A.Nodup := by
    rw [hA]
    have h1 := h.nd.1
    rw [← e1, List.map_map] at h1
    exact h1.sublist (List.filter_sublist.map _)
  have hlen : A.length = openN D := by
    rw [hA, List.length_map]
    unfold openN
    rw [← e2, List.filter_map, List.length_map, e2]
    rfl
  have hin : ∀ z ∈ A, z ∈ d.opn.map (·.key) := fun z hz => by
    rw [hA] at hz
    obtain ⟨q, hq, rfl⟩ := List.mem_map.1 hz
    obtain ⟨hq1, hq2⟩ := List.mem_filter.1 hq
    obtain ⟨i, hi1, hi2⟩ := zip_at hq1
    have := h7 i _ _ hi1 hi2
    have ho : q.2.over = false := by simpa using hq2
    rw [ho] at this
    obtain ⟨x, hx, hk, _⟩ := lookE_mem this
    exact List.mem_map.2 ⟨x, hx, hk⟩
  have hmem := pig hnd hin (by rw [List.length_map, h8, hlen]; exact Nat.le_refl _) e.key (List.mem_map.2 ⟨e, he, rfl⟩)
  rw [hA] at hmem
  obtain ⟨q, hq, hqe⟩ := List.mem_map.1 hmem
  obtain ⟨hq1, hq2⟩ := List.mem_filter.1 hq
  obtain ⟨i, hi1, hi2⟩ := zip_at hq1
  exact ⟨i, _, _, hi1, hi2, by simpa using hq2, hqe⟩
theorem looks_c (h : Sys H n S b Ps D) (hst : ∀ t ∈ D.txns, -9223372036854775808 ≤ t.start ∧ t.start ≤ 9223372036854775807) (hop : openN D ≤ 1000000) :
    HCalls Try.prog 15 [.ptr b 0] H n fun r H' n' => ∃ l, LooksL D l ∧ n ≤ n' ∧ Sys H' n' S b Ps D ∧ (∀ j, j < n → H' j = H j) ∧
      ((r = .lit (.slice none 0 0) ∧ l = []) ∨ ∃ g, r = .rw g 1 0 l.length ∧ Own H' n' S g (.row true 3 (l.map intI))) := by
  obtain ⟨N, d, hb, h1, h2, h3, h4, h5, tx0, tx1, h6, h7, h8⟩ := h.ex
  have hall := opn_all h hb.opOk h7 h8
  have hok := hb.opOk
  have bk := hb.bk
  have op := hb.op
  obtain ⟨l1, l2, l3, l4⟩ := hb.lt
  have hstart : ∀ e ∈ d.opn, ∃ t ∈ D.txns, t.over = false ∧ StartAt H e.key t.start ∧ e.key < n := fun e he => by
    obtain ⟨i, x, t, hx, ht, ho, hk⟩ := hall e he
    obtain ⟨q1, q2, q3⟩ := h.tx i x t hx ht
    rw [← hk]
    exact ⟨t, List.mem_of_getElem? ht, ho, q1.startAt, h.lt _ q2⟩
  have hopen : ∀ t ∈ D.txns, t.over = false → ∃ e ∈ d.opn, StartAt H e.key t.start := fun t ht ho => by
    obtain ⟨i, hi⟩ := List.mem_iff_getElem?.1 ht
    obtain ⟨x, hx, q1, _⟩ := h.txn hi
    have := h7 i x t hx hi
    rw [ho] at this
    obtain ⟨e, he, hk, _⟩ := lookE_mem this
    exact ⟨e, he, by rw [hk]; exact q1.startAt⟩
  refine hcallsC_of (rs := [.tmp 2]) ⟨[0, 2, 3, 4, 6, 12, 14], [], [], []⟩ TOk mixed Try.func15 rfl rfl (by kernel_rfl) (by kernel_rfl) rfl ?_
  have r1 : (n == b) = false := nb (by have := hb.lt; omega)
  have r2 : (n + 1 == b) = false := nb (by omega)
  have r0 : (n == N.no) = false := nb (by omega)
  have r01 : (n + 1 == N.no) = false := nb (by omega)
  simp only [push_cast, Nat.reduceBEq, Nat.reduceAdd, Nat.reduceEqDiff, reduceCtorEq, Nat.reduceLeDiff, Nat.reduceSub, Nat.reduceMul, Nat.reduceLT, Int.reduceEq, Int.reduceLT, Int.reduceLE, Int.reduceBEq, Int.reduceBNe, Int.reduceToNat, Int.reduceNeg, Int.reduceSub, Int.reduceAdd, bk, op, r0, r01, r1, r2]
  refine loopK (fun q s => ∃ (seen : List Nat) (KE : List (Ent Int Bool)) (kc : Nat) (H4 : Hp) (nn : Nat), s = ⟨[(3, .mp (n + 1)), (12, .ptr (n + 1 + 1) 0)], H4, nn⟩ ∧ n + 3 ≤ nn ∧ (∀ j, j < n → H4 j = H j) ∧ H4 (n + 1) = some (.map (KE.map (Ent.me intA boolA)) kc) ∧ MapOk KE kc ∧ H4 (n + 1 + 1) = some (.iter (some N.no) d.oc seen d.oc) ∧
    KE.length + (leftL d.opn seen).length ≤ d.opn.length ∧ (∀ k ∈ KE, ∃ t ∈ D.txns, t.over = false ∧ t.start = k.key) ∧ (∀ e ∈ d.opn, e ∈ leftL d.opn seen ∨ ∃ k ∈ KE, StartAt H e.key k.key) ∧ q = (leftL d.opn seen).length) _ [3, 12]
    ⟨[], [], 0, _, _, rfl, Nat.le_refl _, fun j hj => (upd_other (by omega)).trans ((upd_other (by omega)).trans (upd_other (by omega))), (upd_other (by omega)).trans (upd_same _ _ _), MapOk.nil, upd_same _ _ _, by rw [leftL_nil]; simp, fun k hk => absurd hk List.not_mem_nil, fun e he => .inl (by rw [leftL_nil]; exact he), rfl⟩ ?_
  rintro q _ ⟨seen, KE, kc, H4, nn, rfl, hnn, hkp, hK, hKok, hI, hlen, hA, hB, rfl⟩
  have op4 : H4 N.no = _ := (hkp _ l3).trans op
  simp only [push_cast, Nat.reduceBEq, Nat.reduceAdd, Nat.reduceEqDiff, reduceCtorEq, Nat.reduceLeDiff, Nat.reduceSub, Nat.reduceMul, Nat.reduceLT, Int.reduceEq, Int.reduceLT, Int.reduceLE, Int.reduceBEq, Int.reduceBNe, Int.reduceToNat, Int.reduceNeg, Int.reduceSub, Int.reduceAdd, hI, op4]
  refine nextK (borns_me hok) (Nat.le_refl _) (fun hle => ?_) (fun x0 hx0 => ?_)
  · have hle' : leftL d.opn seen = [] := by
      rw [leftE_me] at hle
      exact List.map_eq_nil_iff.1 hle
    rw [hle'] at hlen hB
    simp only [List.length_nil, Nat.add_zero] at hlen
    simp only [push_cast, Nat.reduceBEq, Nat.reduceAdd, Nat.reduceEqDiff, reduceCtorEq, Nat.reduceLeDiff, Nat.reduceSub, Nat.reduceMul, Nat.reduceLT, Int.reduceEq, Int.reduceLT, Int.reduceLE, Int.reduceBEq, Int.reduceBNe, Int.reduceToNat, Int.reduceNeg, Int.reduceSub, Int.reduceAdd]
    refine callH keysOfIB_h ?_
    rintro _ _ _ ⟨rfl, rfl, rfl⟩
    simp only [push_cast, Nat.reduceBEq, Nat.reduceAdd, Nat.reduceEqDiff, reduceCtorEq, Nat.reduceLeDiff, Nat.reduceSub, Nat.reduceMul, Nat.reduceLT, Int.reduceEq, Int.reduceLT, Int.reduceLE, Int.reduceBEq, Int.reduceBNe, Int.reduceToNat, Int.reduceNeg, Int.reduceSub, Int.reduceAdd]
    have hmemL : ∀ z, z ∈ sortI (KE.map (·.key)) ↔ ∃ t ∈ D.txns, t.over = false ∧ t.start = z := fun z => by
      rw [sortI_mem]
      constructor
      · intro hz
        obtain ⟨k, hk, rfl⟩ := List.mem_map.1 hz
        exact hA k hk
      · rintro ⟨t, ht, ho, rfl⟩
        obtain ⟨e, he, hsa⟩ := hopen t ht ho
        rcases hB e he with hc | ⟨k, hk, hsk⟩
        · cases hc
        · exact List.mem_map.2 ⟨k, hk, hsk.uniq hsa⟩
    have hL : LooksL D (sortI (KE.map (·.key))) := ⟨sortI_rise hKok.keys, hmemL⟩
    refine callH (sortedKeysIB_h (vA := boolA) (mid := n + 1) (clock := kc) (es := KE) ((upd_other (by omega)).trans hK) (upd_same _ _ _) hKok (fun e he => by
      obtain ⟨t, ht, _, hk⟩ := hA e he
      rw [← hk]
      exact hst t ht) (by omega)) ?_
    rintro r H5 n5 hr
    rcases hr with ⟨rfl, he0, rfl, rfl⟩ | ⟨rfl, rfl, rfl⟩
    · simp only [push_cast, Nat.reduceBEq, Nat.reduceAdd, Nat.reduceEqDiff, reduceCtorEq, Nat.reduceLeDiff, Nat.reduceSub, Nat.reduceMul, Nat.reduceLT, Int.reduceEq, Int.reduceLT, Int.reduceLE, Int.reduceBEq, Int.reduceBNe, Int.reduceToNat, Int.reduceNeg, Int.reduceSub, Int.reduceAdd]
      rw [he0, show sortI (([] : List (Ent Int Bool)).map (·.key)) = [] from by unfold sortI; exact List.mergeSort_nil] at hL
      have kp : ∀ j, j < n → upd H4 nn (some (.cells [.mp (n + 1)])) j = H j := fun j hj => (upd_other (by omega)).trans (hkp j hj)
      exact ⟨[], hL, by omega, h.frame (by omega) (fun j hj => kp j (h.lt j hj)), fun j hj => (by rw [nb (show nn ≠ j by omega)]; exact hkp j hj), .inl rfl⟩
    · simp only [push_cast, Nat.reduceBEq, Nat.reduceAdd, Nat.reduceEqDiff, reduceCtorEq, Nat.reduceLeDiff, Nat.reduceSub, Nat.reduceMul, Nat.reduceLT, Int.reduceEq, Int.reduceLT, Int.reduceLE, Int.reduceBEq, Int.reduceBNe, Int.reduceToNat, Int.reduceNeg, Int.reduceSub, Int.reduceAdd]
      have hl1 : (sortI (KE.map (·.key))).length = KE.length := by rw [sortI_len, List.length_map]
      have kp : ∀ (o : Option AO) (j : Nat), j < n → upd (upd H4 nn (some (.cells [.mp (n + 1)]))) (nn + 1) o j = H j := fun o j hj => (upd_other (by omega)).trans ((upd_other (by omega)).trans (hkp j hj))
      refine ⟨_, hL, by omega, h.frame (by omega) (fun j hj => kp _ j (h.lt j hj)), fun j hj => (by rw [nb (show nn + 1 ≠ j by omega), nb (show nn ≠ j by omega)]; exact hkp j hj), .inr ⟨_, ?_, upd_same _ _ _, Nat.lt_succ_self _, h.nu (by omega)⟩⟩
      rw [hl1]
  · rw [leftE_me] at hx0
    obtain ⟨x, hxl, rfl⟩ := List.mem_map.1 hx0
    clear hx0
    have hxm : x ∈ d.opn := (List.mem_filter.1 hxl).1
    have hfb := find_bornE (kA := ptrA) (vA := boolA) hok.borns hxm
    have hll := left_lenE hok.borns hxl
    have hnext := leftL_next hok.borns hxl
    simp only [ptrA, boolA] at hfb
    obtain ⟨t, ht, hto, ⟨tv, tm, hsa⟩, hxn⟩ := hstart x hxm
    have hsa4 : H4 x.key = _ := (hkp _ hxn).trans hsa
    have r3 : (n + 1 + 1 == x.key) = false := nb (by omega)
    have r4 : (n + 1 + 1 == N.no) = false := nb (by omega)
    have r5 : (n + 1 + 1 == n + 1) = false := nb (by omega)
    cases hl : lookE KE t.start with
    | none =>
      have hf := mfind_no (kA := intA) (vA := boolA) keyOk_intA hl
      simp only [intA] at hf
      simp only [push_cast, Nat.reduceBEq, Nat.reduceAdd, Nat.reduceEqDiff, reduceCtorEq, Nat.reduceLeDiff, Nat.reduceSub, Nat.reduceMul, Nat.reduceLT, Int.reduceEq, Int.reduceLT, Int.reduceLE, Int.reduceBEq, Int.reduceBNe, Int.reduceToNat, Int.reduceNeg, Int.reduceSub, Int.reduceAdd, Ent.me, ptrA, boolA, op4, List.getLast?_concat, hfb, hsa4, hK, hf, r3, r4, r5]
      refine ⟨_, hll, seen ++ [x.born], KE ++ [⟨t.start, true, kc⟩], kc + 1, _, nn, rfl, by omega, fun j hj => ?_, ?_, mapOk_snoc hKok (lookE_none.1 hl) _, ?_, ?_, ?_, ?_, rfl⟩
      · repeat rw [upd_other (by omega)]
        exact hkp j hj
      · rw [upd_same]
        exact congrArg (fun l => some (AO.map l (kc + 1))) (snoc_me (kA := intA) (vA := boolA) KE t.start true kc)
      · repeat rw [upd_other (by omega)]
        exact upd_same _ _ _
      · rw [List.length_append]
        have : [(⟨t.start, true, kc⟩ : Ent Int Bool)].length = 1 := rfl
        omega
      · intro k hk
        rcases List.mem_append.1 hk with hk | hk
        · exact hA k hk
        · rw [List.mem_singleton.1 hk]; exact ⟨t, ht, hto, rfl⟩
      · intro e he
        rcases hB e he with hc | ⟨k, hk, hsk⟩
        · rcases List.mem_cons.1 (hnext.mem_iff.1 hc) with rfl | hc
          · exact .inr ⟨_, List.mem_append_right _ List.mem_cons_self, ⟨_, _, hsa⟩⟩
          · exact .inl hc
        · exact .inr ⟨k, List.mem_append_left _ hk, hsk⟩
    | some v =>
      obtain ⟨i, y, g1, g2, g3, g4, hf⟩ := mfind_yes (kA := intA) (vA := boolA) keyOk_intA hl
      simp only [intA] at hf
      simp only [push_cast, Nat.reduceBEq, Nat.reduceAdd, Nat.reduceEqDiff, reduceCtorEq, Nat.reduceLeDiff, Nat.reduceSub, Nat.reduceMul, Nat.reduceLT, Int.reduceEq, Int.reduceLT, Int.reduceLE, Int.reduceBEq, Int.reduceBNe, Int.reduceToNat, Int.reduceNeg, Int.reduceSub, Int.reduceAdd, Ent.me, ptrA, boolA, op4, List.getLast?_concat, hfb, hsa4, hK, hf, r3, r4, r5, g2]
      have hput := hKok.put t.start true
      rw [put_old true g1 g2] at hput
      have hks : ∀ k ∈ KE.set i ⟨t.start, true, y.born⟩, ∃ k' ∈ KE, k'.key = k.key := fun k hk => by
        rcases List.mem_or_eq_of_mem_set hk with hk | rfl
        · exact ⟨k, hk, rfl⟩
        · exact ⟨y, List.mem_of_getElem? g2, g3⟩
      have hsk' : ∀ k ∈ KE, ∃ k' ∈ KE.set i ⟨t.start, true, y.born⟩, k'.key = k.key := fun k hk => by
        obtain ⟨j, hj⟩ := List.mem_iff_getElem?.1 hk
        have hil := lt_of_some g2
        by_cases hji : i = j
        · subst hji
          rw [g2] at hj
          injection hj with hj
          subst hj
          exact ⟨_, List.mem_of_getElem? (List.getElem?_set_self hil), g3.symm⟩
        · exact ⟨k, List.mem_of_getElem? ((List.getElem?_set_ne hji).trans hj), rfl⟩
      refine ⟨_, hll, seen ++ [x.born], KE.set i ⟨t.start, true, y.born⟩, kc, _, nn, rfl, by omega, fun j hj => ?_, ?_, hput, ?_, ?_, ?_, ?_, rfl⟩
      · repeat rw [upd_other (by omega)]
        exact hkp j hj
      · rw [upd_same]
        refine congrArg (fun l => some (AO.map l kc)) ?_
        rw [List.map_set]; rfl
      · repeat rw [upd_other (by omega)]
        exact upd_same _ _ _
      · rw [List.length_set]; omega
      · intro k hk
        obtain ⟨k', hk', e⟩ := hks k hk
        obtain ⟨u, hu, q1, q2⟩ := hA k' hk'
        exact ⟨u, hu, q1, q2.trans e⟩
      · intro e he
        rcases hB e he with hc | ⟨k, hk, hsk⟩
        · rcases List.mem_cons.1 (hnext.mem_iff.1 hc) with rfl | hc
          · obtain ⟨k', hk', e'⟩ := hsk' y (List.mem_of_getElem? g2)
            exact .inr ⟨k', hk', ⟨tv, tm, by rw [e', g3]; exact hsa⟩⟩
          · exact .inl hc
        · obtain ⟨k', hk', e'⟩ := hsk' k hk
          exact .inr ⟨k', hk', by rw [e']; exact hsk⟩
/-- Begin of a book that is full. -/
theorem begin_full (h : Sys H n S b Ps D) (seq : Int) (hs : 0 ≤ seq ∧ seq ≤ 72057594037927935) (hlen : 16 ≤ openN D) :
    HCalls Try.prog 8 [.ptr b 0, .lit (.int .i64 seq)] H n fun r H' n' => r = .tup [.lit (.pointer none), .lit (.int .i64 14)] ∧ H' = H ∧ n' = n := by
  obtain ⟨N, d, hb, h1, h2, h3, h4, h5, tx0, tx1, h6, h7, h8⟩ := h.ex
  refine hcallsC_of (rs := [.tmp 4, .tmp 5]) ⟨[0, 1, 4, 5, 6, 7, 18], [], [], [(6, [(0, [], []), (1, [], []), (2, [], []), (3, [], []), (4, [], []), (5, [], []), (6, [], []), (7, [], []), (8, [], []), (9, [], []), (10, [], [3, 4, 8, 2, 7, 1, 6, 0, 5]), (11, [], []), (12, [], [3, 11, 10, 0, 1, 2, 4, 8, 7, 6, 5]), (13, [], [8, 9, 12, 0, 1, 2, 3, 4, 10, 11, 7, 6, 5]), (14, [], []), (15, [], [8, 14, 13, 0, 1, 2, 3, 4, 5, 6, 7, 9, 10, 11, 12])])]⟩ TOk mixed Try.func8 rfl rfl (by kernel_rfl) (by kernel_rfl) rfl ?_
  have bk := hb.bk; have op := hb.op
  have f1 : ¬ seq < 0 := by omega
  have f2 : ¬ seq > 72057594037927935 := by omega
  have f3 : (d.opn.length : Int) ≥ 16 := by omega
  simp only [push_cast, Nat.reduceBEq, Nat.reduceAdd, Nat.reduceEqDiff, reduceCtorEq, Nat.reduceLeDiff, Nat.reduceSub, Nat.reduceMul, Nat.reduceLT, Int.reduceEq, Int.reduceLT, Int.reduceLE, Int.reduceBEq, Int.reduceBNe, Int.reduceToNat, Int.reduceNeg, Int.reduceSub, Int.reduceAdd, bk, op, f1, f2, f3]
end
end Go.Proofs.Ytnaiaacgcjikiaa
