/- Transactions: Forget; by the walk over a heap. -/
import Derived.Test.YtnaiaacgcjikiaaTxL
set_option linter.unusedVariables false
set_option linter.unusedSimpArgs false
namespace Go.Proofs.Ytnaiaacgcjikiaa
open Go Go.RowKit Hv
set_option maxRecDepth 20000
set_option maxHeartbeats 4000000
theorem forget1_h {H : Hp} {n cell : Nat} {least v : Int} {k : ByteArray} (hk : k.size ≤ 64) (hc : H cell = some (.cells [.lit (.int .i64 least)])) (hcn : cell < n) :
    HCalls Try.prog 28 [.agg (nameC k), .lit (.int .i64 v), .ptr cell 0] H n fun r H' n' => r = .lit (.bool (decide (v ≤ least))) ∧ n ≤ n' ∧ Keeps H H' n [] := by
  refine hcallsC_of (rs := [.tmp 5]) ⟨[0, 1, 2, 5], [], [], []⟩ TOk mixed Try.func28 rfl rfl (by kernel_rfl) (by kernel_rfl) rfl ?_
  have q1 : (n == cell) = false := nb (by omega)
  have hN1 := nameC_len hk
  have hN2 := one_name k
  have hN3 : (nameC k).take 65 = nameC k := List.take_of_length_le (by omega)
  simp only [push_cast, Nat.reduceBEq, Nat.reduceAdd, Nat.reduceEqDiff, reduceCtorEq, Nat.reduceLeDiff, Nat.reduceSub, Nat.reduceMul, Nat.reduceLT, Int.reduceEq, Int.reduceLT, Int.reduceLE, Int.reduceBEq, Int.reduceBNe, Int.reduceToNat, Int.reduceNeg, Int.reduceSub, Int.reduceAdd, hc, q1, hN1, hN2, hN3]
  exact ⟨Nat.le_succ n, (Keeps.refl _ _ _).new (Nat.le_refl _)⟩
def keptL (es : List (Ent Nm Int)) (least : Int) (seen : List Nat) : List (Ent Nm Int) := es.filter fun e => !(seen.contains e.born && decide (e.val ≤ least))
def laterL (es : List (Ent Nm Int)) (least : Int) : List (Ent Nm Int) := es.filter fun e => !decide (e.val ≤ least)
theorem keptL_nil (es : List (Ent Nm Int)) (least : Int) : keptL es least [] = es := List.filter_eq_self.2 fun x _ => by simp
theorem leftL_kept (es : List (Ent Nm Int)) (least : Int) (seen : List Nat) : leftL (keptL es least seen) seen = leftL es seen := by
  unfold leftL keptL
  rw [List.filter_filter]
  refine List.filter_congr fun x _ => ?_
  cases seen.contains x.born <;> simp
theorem keptL_ok {es : List (Ent Nm Int)} {c : Nat} (h : MapOk es c) (least : Int) (seen : List Nat) : MapOk (keptL es least seen) c :=
  ⟨h.keys.sublist (List.filter_sublist.map _), h.borns.sublist (List.filter_sublist.map _), fun e he => h.lt e (List.mem_filter.1 he).1⟩
theorem ent_of_born {es : List (Ent Nm Int)} {c : Nat} (h : MapOk es c) {x y : Ent Nm Int} (hx : x ∈ es) (hy : y ∈ es) (hb : x.born = y.born) : x = y := by
  have hn := h.borns
  obtain ⟨i, hi⟩ := List.mem_iff_getElem?.1 hx
  obtain ⟨j, hj⟩ := List.mem_iff_getElem?.1 hy
  obtain ⟨q1, q2⟩ := List.getElem?_eq_some_iff.1 hi
  obtain ⟨q3, q4⟩ := List.getElem?_eq_some_iff.1 hj
  have hp := List.pairwise_iff_getElem.1 hn
  rcases Nat.lt_trichotomy i j with hij | hij | hij
  · have := hp i j (by simpa using q1) (by simpa using q3) hij
    simp only [List.getElem_map, q2, q4] at this
    exact absurd hb this
  · subst hij; rw [hi] at hj; injection hj
  · have := hp j i (by simpa using q3) (by simpa using q1) hij
    simp only [List.getElem_map, q2, q4] at this
    exact absurd hb.symm this
theorem ent_of_key {es : List (Ent Nm Int)} {c : Nat} (h : MapOk es c) {x y : Ent Nm Int} (hx : x ∈ es) (hy : y ∈ es) (hb : x.key = y.key) : x = y := by
  have hn := h.keys
  obtain ⟨i, hi⟩ := List.mem_iff_getElem?.1 hx
  obtain ⟨j, hj⟩ := List.mem_iff_getElem?.1 hy
  obtain ⟨q1, q2⟩ := List.getElem?_eq_some_iff.1 hi
  obtain ⟨q3, q4⟩ := List.getElem?_eq_some_iff.1 hj
  have hp := List.pairwise_iff_getElem.1 hn
  rcases Nat.lt_trichotomy i j with hij | hij | hij
  · have := hp i j (by simpa using q1) (by simpa using q3) hij
    simp only [List.getElem_map, q2, q4] at this
    exact absurd hb this
  · subst hij; rw [hi] at hj; injection hj
  · have := hp j i (by simpa using q3) (by simpa using q1) hij
    simp only [List.getElem_map, q2, q4] at this
    exact absurd hb.symm this
theorem keptL_stay {es : List (Ent Nm Int)} {c : Nat} (h : MapOk es c) {least : Int} {seen : List Nat} {x : Ent Nm Int} (hx : x ∈ es) (hv : ¬ x.val ≤ least) : keptL es least (seen ++ [x.born]) = keptL es least seen := by
  unfold keptL
  refine List.filter_congr fun y hy => ?_
  by_cases hb : y.born = x.born
  · obtain rfl := ent_of_born h hy hx hb
    rw [decide_eq_false hv]; simp
  · have : (seen ++ [x.born]).contains y.born = seen.contains y.born := by simp [hb]
    rw [this]
theorem keptL_go {es : List (Ent Nm Int)} {c : Nat} (h : MapOk es c) {least : Int} {seen : List Nat} {x : Ent Nm Int} (hx : x ∈ es) (hv : x.val ≤ least) : keptL es least (seen ++ [x.born]) = delE (keptL es least seen) x.key := by
  rw [del_filter (keptL_ok h least seen).keys]
  unfold keptL
  rw [List.filter_filter]
  refine List.filter_congr fun y hy => ?_
  by_cases hb : y.born = x.born
  · obtain rfl := ent_of_born h hy hx hb
    rw [decide_eq_true hv]; simp
  · have hk : y.key ≠ x.key := fun e => hb (congrArg (·.born) (ent_of_key h hy hx e))
    have : (seen ++ [x.born]).contains y.born = seen.contains y.born := by simp [hb]
    rw [this, decide_eq_false hk]; simp
theorem keptL_end {es : List (Ent Nm Int)} {least : Int} {seen : List Nat} (h : leftL es seen = []) : keptL es least seen = laterL es least := by
  unfold keptL laterL
  refine List.filter_congr fun y hy => ?_
  have : seen.contains y.born = true := by
    have := List.filter_eq_nil_iff.1 h y hy
    simpa using this
  rw [this]; rfl
theorem forgets_h {H : Hp} {n id cell c : Nat} {least : Int} {es : List (Ent Nm Int)} (hm : H id = some (.map (es.map (Ent.me nameA intA)) c)) (hok : MapOk es c) (hid : id < n) (hc : H cell = some (.cells [.lit (.int .i64 least)])) (hcn : cell < n) :
    HCalls Try.prog 27 [.mp id, .fn 28 [.ptr cell 0]] H n fun r H' n' => r = .tup [] ∧ n ≤ n' ∧ H' id = some (.map ((laterL es least).map (Ent.me nameA intA)) c) ∧ Keeps H H' n [id] := by
  refine hcallsC_of (rs := []) ⟨[0, 1, 4, 5, 7, 9, 16], [], [], []⟩ TOk mixed Try.func27 rfl rfl (by kernel_rfl) (by kernel_rfl) rfl ?_
  have hci : cell ≠ id := fun e => by rw [e, hm] at hc; cases hc
  simp only [push_cast, Nat.reduceBEq, Nat.reduceAdd, Nat.reduceEqDiff, reduceCtorEq, Nat.reduceLeDiff, Nat.reduceSub, Nat.reduceMul, Nat.reduceLT, Int.reduceEq, Int.reduceLT, Int.reduceLE, Int.reduceBEq, Int.reduceBNe, Int.reduceToNat, Int.reduceNeg, Int.reduceSub, Int.reduceAdd, hm]
  refine loopK (fun q s => ∃ (seen : List Nat) (H4 : Hp) (nn : Nat), s = ⟨[(0, .mp id), (1, .fn 28 [.ptr cell 0]), (7, .ptr n 0)], H4, nn⟩ ∧ n + 1 ≤ nn ∧ Keeps H H4 n [id] ∧ H4 id = some (.map ((keptL es least seen).map (Ent.me nameA intA)) c) ∧ H4 n = some (.iter (some id) c seen c) ∧ q = (leftL es seen).length) _ [0, 1, 7]
    ⟨[], _, _, rfl, Nat.le_refl _, (Keeps.refl _ _ _).new (Nat.le_refl _), (upd_other (by omega)).trans (by rw [keptL_nil]; exact hm), upd_same _ _ _, rfl⟩ ?_
  rintro q _ ⟨seen, H4, nn, rfl, hnn, hkp, hM, hI, rfl⟩
  have hokK := keptL_ok hok least seen
  have hc4 : H4 cell = _ := hkp.to hcn (by simpa using hci) hc
  simp only [push_cast, Nat.reduceBEq, Nat.reduceAdd, Nat.reduceEqDiff, reduceCtorEq, Nat.reduceLeDiff, Nat.reduceSub, Nat.reduceMul, Nat.reduceLT, Int.reduceEq, Int.reduceLT, Int.reduceLE, Int.reduceBEq, Int.reduceBNe, Int.reduceToNat, Int.reduceNeg, Int.reduceSub, Int.reduceAdd, hI, hM]
  refine nextK (borns_me hokK) (Nat.le_refl _) (fun hle => ?_) (fun x0 hx0 => ?_)
  · have hle' : leftL es seen = [] := by
      rw [leftE_me, leftL_kept] at hle
      exact List.map_eq_nil_iff.1 hle
    rw [keptL_end hle'] at hM
    simp only [push_cast, Nat.reduceBEq, Nat.reduceAdd, Nat.reduceEqDiff, reduceCtorEq, Nat.reduceLeDiff, Nat.reduceSub, Nat.reduceMul, Nat.reduceLT, Int.reduceEq, Int.reduceLT, Int.reduceLE, Int.reduceBEq, Int.reduceBNe, Int.reduceToNat, Int.reduceNeg, Int.reduceSub, Int.reduceAdd]
    exact ⟨by omega, hM, hkp⟩
  · rw [leftE_me, leftL_kept] at hx0
    obtain ⟨x, hxl, rfl⟩ := List.mem_map.1 hx0
    clear hx0
    have hxm : x ∈ es := (List.mem_filter.1 hxl).1
    have hxk : x ∈ keptL es least seen := by
      have : x ∈ leftL (keptL es least seen) seen := by rw [leftL_kept]; exact hxl
      exact (List.mem_filter.1 this).1
    have hfb := find_bornE (kA := nameA) (vA := intA) hokK.borns hxk
    have hll := left_lenE hok.borns hxl
    simp only [nameA, intA] at hfb
    have hN1 := nameC_len x.key.2
    have hN2 := one_name x.key.1
    have hN3 : (nameC x.key.1).take 65 = nameC x.key.1 := List.take_of_length_le (by omega)
    obtain ⟨zc, zs, z1, z2, z3, z4, z5⟩ := zFacts
    have r1 : (n == id) = false := nb (by omega)
    have r2 : (nn == id) = false := nb (by omega)
    simp only [push_cast, Nat.reduceBEq, Nat.reduceAdd, Nat.reduceEqDiff, reduceCtorEq, Nat.reduceLeDiff, Nat.reduceSub, Nat.reduceMul, Nat.reduceLT, Int.reduceEq, Int.reduceLT, Int.reduceLE, Int.reduceBEq, Int.reduceBNe, Int.reduceToNat, Int.reduceNeg, Int.reduceSub, Int.reduceAdd, Ent.me, nameA, intA, hM, List.getLast?_concat, hfb, r1, z1, z2, z3, z4, z5, hN1, hN2, hN3, List.append_nil]
    have hcc : ∀ o1 o2 o3, upd (upd (upd H4 n o1) nn o2) nn o3 cell = some (.cells [.lit (.int .i64 least)]) := fun o1 o2 o3 => (upd_other (by omega)).trans ((upd_other (by omega)).trans ((upd_other (by omega)).trans hc4))
    have hcl : cell < nn + 1 := by omega
    refine callH (forget1_h (least := least) x.key.2 (hcc _ _ _) hcl) ?_
    rintro _ H5 n5 ⟨rfl, hn5, k5⟩
    dsimp only at hn5 k5
    have hM5 : H5 id = some (.map ((keptL es least seen).map (Ent.me nameA intA)) c) := k5.to (by omega) List.not_mem_nil ((upd_other (by omega)).trans ((upd_other (by omega)).trans ((upd_other (by omega)).trans hM)))
    have hI5 : H5 n = some (.iter (some id) c (seen ++ [x.born]) c) := k5.to (by omega) List.not_mem_nil ((upd_other (by omega)).trans ((upd_other (by omega)).trans (upd_same _ _ _)))
    have hT5 : H5 nn = some (.cells (nameC x.key.1)) := k5.to (Nat.lt_succ_self _) List.not_mem_nil (upd_same _ _ _)
    have hk5 : Keeps H H5 n [id] := ((((hkp.new (Nat.le_refl _)).new (by omega)).new (by omega)).trans k5 (by omega) fun i hi => absurd hi List.not_mem_nil)
    by_cases hv : x.val ≤ least
    · cases hl : lookE (keptL es least seen) x.key with
      | none => exact absurd rfl (lookE_none.1 hl x hxk)
      | some v =>
        obtain ⟨i, y, g1, g2, g3, g4, hf⟩ := mfind_yes (kA := nameA) (vA := intA) keyOk_name hl
        have hkm := kind_name x.key
        simp only [Hv.keyKind, Hv.keys65] at hkm
        simp only [nameA, intA] at hf
        simp only [push_cast, Nat.reduceBEq, Nat.reduceAdd, Nat.reduceEqDiff, reduceCtorEq, Nat.reduceLeDiff, Nat.reduceSub, Nat.reduceMul, Nat.reduceLT, Int.reduceEq, Int.reduceLT, Int.reduceLE, Int.reduceBEq, Int.reduceBNe, Int.reduceToNat, Int.reduceNeg, Int.reduceSub, Int.reduceAdd, decide_eq_true hv, hT5, hM5, hf, hkm, hN1, hN2, hN3]
        refine ⟨_, hll, seen ++ [x.born], _, _, rfl, by omega, hk5.put (by simp), ?_, (upd_other (by omega)).trans hI5, rfl⟩
        rw [upd_same, keptL_go hok hxm hv, del_old g1]
        exact congrArg (fun l => some (AO.map l c)) (map_erase _ _ _)
    · simp only [push_cast, Nat.reduceBEq, Nat.reduceAdd, Nat.reduceEqDiff, reduceCtorEq, Nat.reduceLeDiff, Nat.reduceSub, Nat.reduceMul, Nat.reduceLT, Int.reduceEq, Int.reduceLT, Int.reduceLE, Int.reduceBEq, Int.reduceBNe, Int.reduceToNat, Int.reduceNeg, Int.reduceSub, Int.reduceAdd, decide_eq_false hv]
      exact ⟨_, hll, seen ++ [x.born], _, _, rfl, by omega, hk5, by rw [keptL_stay hok hxm hv]; exact hM5, hI5, rfl⟩
/-- Behind a Forget. -/
def leastOf (l : List Int) : Int := (l[0]?).getD 72057594037927935
def SysD.forgot (D : SysD) (l : List Int) : SysD := ⟨(laterL D.notes.1 (leastOf l), D.notes.2), D.txns⟩
theorem Sys.noted {H : Hp} {n b : Nat} {S : Nat → Prop} {Ps : List (Nat × Nat)} {D : SysD} (h : Sys H n S b Ps D) : ∃ N : BkN, H b = some (.cells [.mp N.nn, .mp N.no, .mp N.nh]) ∧ H N.nn = some (.map (D.notes.1.map (Ent.me nameA intA)) D.notes.2) ∧ MapOk D.notes.1 D.notes.2 ∧ b < n ∧ N.nn < n ∧ S N.nn ∧
    ∀ (H' : Hp) (n' : Nat) (x : List (Ent Nm Int) × Nat), n ≤ n' → Keeps H H' n [N.nn] → H' N.nn = some (.map (x.1.map (Ent.me nameA intA)) x.2) → MapOk x.1 x.2 → Sys H' n' S b Ps ⟨x, D.txns⟩ := by
  obtain ⟨N, d, hb, h1, h2, h3, h4, h5, tx0, tx1, h6, h7, h8⟩ := h.ex
  rw [← h1]
  refine ⟨N, hb.bk, hb.nt, hb.ntOk, hb.lt.1, hb.lt.2.1, h2, fun H' n' x hn hk hm ok => ⟨⟨N, d.noted x, hb.note hk hn hm ok, rfl, h2, h3, h4, h5, tx0, tx1, h6, h7, h8⟩, h.Sb, h.len, fun i y t hy ht => ?_, h.nd, fun j hj => Nat.lt_of_lt_of_le (h.lt j hj) hn⟩⟩
  obtain ⟨r1, s1, s2⟩ := h.tx i y t hy ht
  refine ⟨r1.keeps hk (h.lt _ s1) (h.lt _ s2) ?_ (by simpa using (h5 y (List.mem_of_getElem? hy)).1), s1, s2⟩
  simp only [List.mem_singleton]
  intro e
  have := r1.tx
  rw [e, hb.nt] at this
  cases this
theorem forget_c {H : Hp} {n b : Nat} {S : Nat → Prop} {Ps : List (Nat × Nat)} {D : SysD} (h : Sys H n S b Ps D) (hst : ∀ t ∈ D.txns, -9223372036854775808 ≤ t.start ∧ t.start ≤ 9223372036854775807) (hop : openN D ≤ 1000000) :
    HCalls Try.prog 17 [.ptr b 0] H n fun r H' n' => ∃ l, LooksL D l ∧ SysP H n S b Ps (D.forgot l) r r H' n' := by
  refine hcallsC_of (rs := [.tmp 2]) ⟨[0, 2, 3, 4, 6, 11], [], [], []⟩ TOk mixed Try.func17 rfl rfl (by kernel_rfl) (by kernel_rfl) rfl ?_
  simp only [push_cast, Nat.reduceBEq, Nat.reduceAdd, Nat.reduceEqDiff, reduceCtorEq, Nat.reduceLeDiff, Nat.reduceSub, Nat.reduceMul, Nat.reduceLT, Int.reduceEq, Int.reduceLT, Int.reduceLE, Int.reduceBEq, Int.reduceBNe, Int.reduceToNat, Int.reduceNeg, Int.reduceSub, Int.reduceAdd]
  have h1 : Sys (upd (upd H n (some (.cells [.lit (.int .i64 0)]))) n (some (.cells [.lit (.int .i64 72057594037927935)]))) (n + 1) S b Ps D := (h.new (Nat.le_refl _) (Nat.le_succ _)).u (h.nu (Nat.le_refl _))
  refine callH (looks_c h1 hst hop) ?_
  rintro r H2 n2 ⟨l, hl, hn2, h2, k2, hr⟩
  dsimp only at hn2 k2
  obtain ⟨N, bk, nt, ok, hbn, hnn, hS, fin⟩ := h2.noted
  have hbn1 := h.lt b h.Sb
  have hc2 : H2 n = some (.cells [.lit (.int .i64 72057594037927935)]) := (k2 n (Nat.lt_succ_self n)).trans (upd_same _ _ _)
  have hcn2 : n < n2 := by omega
  have hNn : N.nn ≠ n := fun e => h.nu (Nat.le_refl n) (e ▸ hS)
  have hk2 : ∀ j, j < n → H2 j = H j := fun j hj => (k2 j (by omega)).trans ((upd_other (by omega)).trans (upd_other (by omega)))
  have fin' : ∀ (H' : Hp) (n' : Nat) (x : List (Ent Nm Int) × Nat), n2 ≤ n' → (∀ j, S j → j ≠ N.nn → H' j = H2 j) → H' N.nn = some (.map (x.1.map (Ent.me nameA intA)) x.2) → MapOk x.1 x.2 → Sys H' n' S b Ps ⟨x, D.txns⟩ := by
    intro H' n' x hn hk hm hx
    classical
    have := fin (fun j => if S j then H' j else H2 j) n' x hn (fun j hj hx => by
      by_cases hs : S j
      · simp only [hs, if_true]; exact hk j hs (by simpa using hx)
      · simp only [hs, if_false]) (by simp only [hS, if_true]; exact hm) hx
    exact this.frame (Nat.le_refl _) fun j hj => by simp only [hj, if_true]
  have hbN : b ≠ N.nn := fun e => by rw [e, nt] at bk; cases bk
  have okl : ∀ z, MapOk (laterL D.notes.1 z) D.notes.2 := fun z => ⟨ok.keys.sublist (List.filter_sublist.map _), ok.borns.sublist (List.filter_sublist.map _), fun e he => ok.lt e (List.mem_filter.1 he).1⟩
  have kS : ∀ (H3 : Hp), (∀ j, j < n → j ≠ N.nn → H3 j = H2 j) → ∀ j, j < n → ¬ S j → H3 j = H j := fun H3 k j hj hs => (k j hj fun e => hs (e ▸ hS)).trans (hk2 j hj)
  cases l with
  | nil =>
    have hL : leastOf [] = 72057594037927935 := rfl
    rcases hr with ⟨rfl, _⟩ | ⟨g, rfl, hO⟩
    · simp only [push_cast, Nat.reduceBEq, Nat.reduceAdd, Nat.reduceEqDiff, reduceCtorEq, Nat.reduceLeDiff, Nat.reduceSub, Nat.reduceMul, Nat.reduceLT, Int.reduceEq, Int.reduceLT, Int.reduceLE, Int.reduceBEq, Int.reduceBNe, Int.reduceToNat, Int.reduceNeg, Int.reduceSub, Int.reduceAdd, bk]
      refine callH (forgets_h nt ok hnn hc2 hcn2) ?_
      rintro _ H3 n3 ⟨rfl, hn3, hm3, k3⟩
      dsimp only at hn3 k3
      have h3 := fin H3 n3 (laterL D.notes.1 72057594037927935, D.notes.2) hn3 k3 hm3 (okl _)
      have bk3 : H3 b = _ := (k3 b hbn (by simpa using hbN)).trans bk
      simp only [push_cast, Nat.reduceBEq, Nat.reduceAdd, Nat.reduceEqDiff, reduceCtorEq, Nat.reduceLeDiff, Nat.reduceSub, Nat.reduceMul, Nat.reduceLT, Int.reduceEq, Int.reduceLT, Int.reduceLE, Int.reduceBEq, Int.reduceBNe, Int.reduceToNat, Int.reduceNeg, Int.reduceSub, Int.reduceAdd, bk3, hm3]
      exact ⟨[], hl, sysP_of (by omega) h3 (kS H3 fun j hj hne => k3 j (by omega) (by simpa using hne))⟩
    · simp only [push_cast, Nat.reduceBEq, Nat.reduceAdd, Nat.reduceEqDiff, reduceCtorEq, Nat.reduceLeDiff, Nat.reduceSub, Nat.reduceMul, Nat.reduceLT, Int.reduceEq, Int.reduceLT, Int.reduceLE, Int.reduceBEq, Int.reduceBNe, Int.reduceToNat, Int.reduceNeg, Int.reduceSub, Int.reduceAdd, bk, List.length_nil]
      refine callH (forgets_h nt ok hnn hc2 hcn2) ?_
      rintro _ H3 n3 ⟨rfl, hn3, hm3, k3⟩
      dsimp only at hn3 k3
      have h3 := fin H3 n3 (laterL D.notes.1 72057594037927935, D.notes.2) hn3 k3 hm3 (okl _)
      have bk3 : H3 b = _ := (k3 b hbn (by simpa using hbN)).trans bk
      simp only [push_cast, Nat.reduceBEq, Nat.reduceAdd, Nat.reduceEqDiff, reduceCtorEq, Nat.reduceLeDiff, Nat.reduceSub, Nat.reduceMul, Nat.reduceLT, Int.reduceEq, Int.reduceLT, Int.reduceLE, Int.reduceBEq, Int.reduceBNe, Int.reduceToNat, Int.reduceNeg, Int.reduceSub, Int.reduceAdd, bk3, hm3]
      exact ⟨[], hl, sysP_of (by omega) h3 (kS H3 fun j hj hne => k3 j (by omega) (by simpa using hne))⟩
  | cons z l =>
    have hL : leastOf (z :: l) = z := rfl
    rcases hr with ⟨_, hc⟩ | ⟨g, rfl, hO⟩
    · cases hc
    have hG := hO.at
    have hll : ((z :: l).length : Int) > 0 := by simp only [List.length_cons]; omega
    have hll2 : (0 : Int) < ((z :: l).length : Int) := hll
    have h0 : ((z :: l).map intI)[0]? = some (intI z) := rfl
    have hbl : Nat.ble (z :: l).length ((z :: l).map intI).length = true := by rw [List.length_map]; exact Nat.ble_self_eq_true _
    have htk : ((z :: l).map intI).take (z :: l).length = (z :: l).map intI := List.take_of_length_le (by rw [List.length_map]; exact Nat.le_refl _)
    obtain ⟨Z, hZ⟩ : ∃ Z, z :: l = Z := ⟨_, rfl⟩
    rw [hZ] at hl hG hll hll2 h0 hbl htk
    have hN2' : (n == N.nn) = false := nb fun e => hNn e.symm
    have hnb : (n == b) = false := nb (by omega)
    simp only [push_cast, Nat.reduceBEq, Nat.reduceAdd, Nat.reduceEqDiff, reduceCtorEq, Nat.reduceLeDiff, Nat.reduceSub, Nat.reduceMul, Nat.reduceLT, Int.reduceEq, Int.reduceLT, Int.reduceLE, Int.reduceBEq, Int.reduceBNe, Int.reduceToNat, Int.reduceNeg, Int.reduceSub, Int.reduceAdd, hZ, hll, hll2, hG, h0, hbl, htk, intI, hc2, bk, hnb, hN2']
    have nt2 : upd H2 n (some (.cells [.lit (.int .i64 z)])) N.nn = _ := (upd_other (fun e => hNn e.symm)).trans nt
    refine callH (forgets_h nt2 ok hnn (upd_same _ _ _) hcn2) ?_
    rintro _ H3 n3 ⟨rfl, hn3, hm3, k3⟩
    dsimp only at hn3 k3
    have kk : ∀ j, j < n2 → j ≠ N.nn → j ≠ n → H3 j = H2 j := fun j hj h4 h5 => (k3 j hj (by simpa using h4)).trans (upd_other (fun e => h5 e.symm))
    have h3 := fin' H3 n3 (laterL D.notes.1 z, D.notes.2) hn3 (fun j hs hne => kk j (h2.lt j hs) hne fun e => h.nu (Nat.le_refl n) (e ▸ hs)) hm3 (okl _)
    have bk3 : H3 b = _ := (kk b hbn hbN (by omega)).trans bk
    simp only [push_cast, Nat.reduceBEq, Nat.reduceAdd, Nat.reduceEqDiff, reduceCtorEq, Nat.reduceLeDiff, Nat.reduceSub, Nat.reduceMul, Nat.reduceLT, Int.reduceEq, Int.reduceLT, Int.reduceLE, Int.reduceBEq, Int.reduceBNe, Int.reduceToNat, Int.reduceNeg, Int.reduceSub, Int.reduceAdd, bk3, hm3]
    refine ⟨Z, hl, sysP_of (by omega) ?_ (kS H3 fun j hj hne => kk j (by omega) hne (by omega))⟩
    have e : D.forgot Z = ⟨(laterL D.notes.1 z, D.notes.2), D.txns⟩ := by rw [← hZ]; rfl
    rw [e]
    exact h3
end Go.Proofs.Ytnaiaacgcjikiaa
