/- Files that a crash may cut: New, changes done and laid by, by the walk over a heap. -/
import Derived.Test.YtjmafbdakalknaaDoorFsUsed
set_option linter.unusedVariables false
set_option linter.unusedSimpArgs false
namespace Go.Proofs.YtjmafbdakalknaaDoor
open Go Go.RowKit Hv
set_option maxRecDepth 20000
set_option maxHeartbeats 4000000
theorem nb {a b : Nat} (h : a ≠ b) : (a == b) = false := beq_eq_false_iff_ne.2 h
/-- What a call makes of a directory; whatever is not the directory's stays. -/
def FsPost (H : Hp) (n : Nat) (S : Nat → Prop) (p : Nat) (d' : FsD) (res : AV) (r : AV) (H' : Hp) (n' : Nat) : Prop :=
  r = res ∧ ∃ (S' : Nat → Prop) (L' : FsL), FsH H' S' p L' d' ∧ n ≤ n' ∧ (∀ j, S' j → j < n') ∧ (∀ j, S' j → S j ∨ n ≤ j) ∧ ∀ j, j < n → ¬ S j → H' j = H j
theorem fsNew_ok {room : Int} (h : 0 ≤ room ∧ room ≤ 1073741824) : FsOk (fsNew room) := by
  refine ⟨h, MapOk.nil, MapOk.nil, fun e he => absurd he List.not_mem_nil, fun e he => absurd he List.not_mem_nil, fun c hc => absurd hc List.not_mem_nil, rfl, fun k => ?_, fun i x hx => by simp [fsNew] at hx, fun ha => by cases ha⟩
  simp [fsNew]
theorem new_h {H : Hp} {n : Nat} {room : Int} (hr : 0 ≤ room ∧ room ≤ 1073741824) :
    HCalls Tryd.prog 11 [.lit (.int .i64 room)] H n (FsPost H n (fun _ => False) (n + 2) (fsNew room) (.tup [.ptr (n + 2) 0, .lit (.int .i64 0)])) := by
  refine hcallsC_of (rs := [.tmp 2, .tmp 3]) ⟨[0, 2, 3, 9], [], [], []⟩ TOk mixed Tryd.func11 rfl rfl (by kernel_rfl) (by kernel_rfl) rfl ?_
  have h1 : ¬ room < 0 := by omega
  have h2 : ¬ room > 1073741824 := by omega
  simp only [push_cast, Nat.reduceBEq, Nat.reduceAdd, Nat.reduceEqDiff, reduceCtorEq, Nat.reduceLeDiff, Nat.reduceSub, Nat.reduceMul, Nat.reduceLT, Int.reduceEq, Int.reduceLT, Int.reduceLE, Int.reduceBEq, Int.reduceBNe, Int.reduceToNat, Int.reduceNeg, Int.reduceSub, Int.reduceAdd, h1, h2]
  refine ⟨rfl, fun j => n ≤ j ∧ j < n + 3, ⟨n, n + 1, fun _ => 0, fun _ => 0, .lit (.slice none 0 0)⟩, ?_, by omega, fun j hj => by omega, fun j hj => .inr hj.1, fun j hj _ => by rw [upd_other (by omega), upd_other (by omega), upd_other (by omega)]⟩
  refine ⟨upd_same _ _ _, ?_, ?_, by show n ≠ n + 1; omega, fun i x hx => by simp [fsNew] at hx, fun i j hi => by simp [fsNew] at hi, fun i j hi => by simp [fsNew] at hi, .inl ⟨rfl, rfl⟩, by constructor <;> omega, ⟨Nat.le_refl _, by show n < n + 3; omega⟩, ⟨by show n ≤ n + 1; omega, by show n + 1 < n + 3; omega⟩, fun i hi => by simp [fsNew] at hi⟩
  · rw [upd_other (by show n + 1 + 1 ≠ n; omega), upd_other (by show n + 1 ≠ n; omega), upd_same]; rfl
  · rw [upd_other (by show n + 1 + 1 ≠ n + 1; omega), upd_same]; rfl
theorem new_bad {H : Hp} {n : Nat} {room : Int} (hr : ¬ (0 ≤ room ∧ room ≤ 1073741824)) :
    HCalls Tryd.prog 11 [.lit (.int .i64 room)] H n fun r H' n' => r = .tup [.lit (.pointer none), .lit (.int .i64 1)] ∧ H' = H ∧ n' = n := by
  refine hcallsC_of (rs := [.tmp 2, .tmp 3]) ⟨[0, 2, 3, 9], [], [], []⟩ TOk mixed Tryd.func11 rfl rfl (by kernel_rfl) (by kernel_rfl) rfl ?_
  by_cases h1 : room < 0
  · simp only [push_cast, Nat.reduceBEq, Nat.reduceAdd, Nat.reduceEqDiff, reduceCtorEq, Nat.reduceLeDiff, Nat.reduceSub, Nat.reduceMul, Nat.reduceLT, Int.reduceEq, Int.reduceLT, Int.reduceLE, Int.reduceBEq, Int.reduceBNe, Int.reduceToNat, Int.reduceNeg, Int.reduceSub, Int.reduceAdd, h1]
  · have h2 : room > 1073741824 := by omega
    simp only [push_cast, Nat.reduceBEq, Nat.reduceAdd, Nat.reduceEqDiff, reduceCtorEq, Nat.reduceLeDiff, Nat.reduceSub, Nat.reduceMul, Nat.reduceLT, Int.reduceEq, Int.reduceLT, Int.reduceLE, Int.reduceBEq, Int.reduceBNe, Int.reduceToNat, Int.reduceNeg, Int.reduceSub, Int.reduceAdd, h1, h2]
theorem map_erase {α β : Type} (f : α → β) : ∀ (l : List α) (j : Nat), (l.map f).eraseIdx j = (l.eraseIdx j).map f
  | [], _ => rfl
  | _ :: _, 0 => rfl
  | a :: l, j + 1 => congrArg (f a :: ·) (map_erase f l j)
/-- A map that a change is done to. -/
def AppPost (H : Hp) (n m : Nat) (fid : Nat → Nat) (d : DirD) (r : AV) (H' : Hp) (n' : Nat) : Prop := r = .tup [] ∧ n' = n ∧ H' m = some (mapA fid d) ∧ ∀ j, j ≠ m → H' j = H j
theorem put_me {fid : Nat → Nat} {d : DirD} {k : ByteArray} {i : Nat} : (lookE d.1 k = none → mapA fid (putE d.1 d.2 k i) = .map (d.1.map (Ent.me strA (fA fid)) ++ [⟨strA k, fA fid i, d.2⟩]) (d.2 + 1)) := by
  intro h
  rw [put_new i h]
  unfold mapA
  rw [List.map_append]; rfl
theorem put_me' {fid : Nat → Nat} {d : DirD} {k : ByteArray} {i j : Nat} {x : NmE} (hf : findE d.1 k = some j) (hx : d.1[j]? = some x) : mapA fid (putE d.1 d.2 k i) = .map ((d.1.map (Ent.me strA (fA fid))).set j ⟨strA k, fA fid i, x.born⟩) d.2 := by
  rw [put_old i hf hx]
  unfold mapA
  rw [List.map_set]; rfl
theorem appNew_h {H : Hp} {n m a b i : Nat} {fid : Nat → Nat} {d : DirD} {k : ByteArray} (hm : H m = some (mapA fid d)) (ha : H a = some (.cells [fA fid i])) (hb : H b = some (.cells [strA k])) :
    HCalls Tryd.prog 36 [.mp m, .ptr a 0, .ptr b 0] H n (AppPost H n m fid ((ChD.new k i).app d)) := by
  refine hcallsC_of (rs := []) ⟨[0, 1, 2], [], [], []⟩ TOk mixed Tryd.func36 rfl rfl (by kernel_rfl) (by kernel_rfl) rfl ?_
  have hm' := hm
  unfold mapA at hm'
  unfold strA at hb
  unfold fA at ha
  cases hl : lookE d.1 k with
  | none =>
    have hf := mfind_no (vA := fA fid) keyOk_strA hl
    simp only [strA] at hf
    simp only [push_cast, Nat.reduceBEq, Nat.reduceAdd, Nat.reduceEqDiff, reduceCtorEq, Nat.reduceLeDiff, Nat.reduceSub, Nat.reduceMul, Nat.reduceLT, Int.reduceEq, Int.reduceLT, Int.reduceLE, Int.reduceBEq, Int.reduceBNe, Int.reduceToNat, Int.reduceNeg, Int.reduceSub, Int.reduceAdd, hm', ha, hb, hf]
    exact ⟨rfl, rfl, by rw [upd_same]; exact congrArg some (put_me hl).symm, one_upd⟩
  | some v =>
    obtain ⟨j, x, hfe, hx, _, _, hf⟩ := mfind_yes (vA := fA fid) keyOk_strA hl
    simp only [strA] at hf
    simp only [push_cast, Nat.reduceBEq, Nat.reduceAdd, Nat.reduceEqDiff, reduceCtorEq, Nat.reduceLeDiff, Nat.reduceSub, Nat.reduceMul, Nat.reduceLT, Int.reduceEq, Int.reduceLT, Int.reduceLE, Int.reduceBEq, Int.reduceBNe, Int.reduceToNat, Int.reduceNeg, Int.reduceSub, Int.reduceAdd, hm', ha, hb, hf, hx]
    exact ⟨rfl, rfl, by rw [upd_same]; exact congrArg some (put_me' hfe hx).symm, one_upd⟩
theorem del_me {fid : Nat → Nat} {es : List NmE} {c : Nat} {k : ByteArray} (hl : lookE es k = none) : mapA fid (delE es k, c) = .map (es.map (Ent.me strA (fA fid))) c := by
  rw [del_no hl]; rfl
theorem del_me' {fid : Nat → Nat} {es : List NmE} {c j : Nat} {k : ByteArray} (hf : findE es k = some j) : mapA fid (delE es k, c) = .map ((es.map (Ent.me strA (fA fid))).eraseIdx j) c := by
  rw [del_old hf]
  unfold mapA
  rw [map_erase]
theorem appRem_h {H : Hp} {n m a : Nat} {fid : Nat → Nat} {d : DirD} {k : ByteArray} (hm : H m = some (mapA fid d)) (ha : H a = some (.cells [strA k])) :
    HCalls Tryd.prog 44 [.mp m, .ptr a 0] H n (AppPost H n m fid ((ChD.rem k).app d)) := by
  refine hcallsC_of (rs := []) ⟨[0, 1], [], [], []⟩ TOk mixed Tryd.func44 rfl rfl (by kernel_rfl) (by kernel_rfl) rfl ?_
  have hm' := hm
  unfold mapA at hm'
  unfold strA at ha
  cases hl : lookE d.1 k with
  | none =>
    have hf := mfind_no (vA := fA fid) keyOk_strA hl
    simp only [strA] at hf
    simp only [push_cast, Nat.reduceBEq, Nat.reduceAdd, Nat.reduceEqDiff, reduceCtorEq, Nat.reduceLeDiff, Nat.reduceSub, Nat.reduceMul, Nat.reduceLT, Int.reduceEq, Int.reduceLT, Int.reduceLE, Int.reduceBEq, Int.reduceBNe, Int.reduceToNat, Int.reduceNeg, Int.reduceSub, Int.reduceAdd, hm', ha, hf]
    exact ⟨rfl, rfl, by rw [upd_same]; exact congrArg some (del_me hl).symm, one_upd⟩
  | some v =>
    obtain ⟨j, x, hfe, hx, _, _, hf⟩ := mfind_yes (vA := fA fid) keyOk_strA hl
    simp only [strA] at hf
    simp only [push_cast, Nat.reduceBEq, Nat.reduceAdd, Nat.reduceEqDiff, reduceCtorEq, Nat.reduceLeDiff, Nat.reduceSub, Nat.reduceMul, Nat.reduceLT, Int.reduceEq, Int.reduceLT, Int.reduceLE, Int.reduceBEq, Int.reduceBNe, Int.reduceToNat, Int.reduceNeg, Int.reduceSub, Int.reduceAdd, hm', ha, hf]
    exact ⟨rfl, rfl, by rw [upd_same]; exact congrArg some (del_me' hfe).symm, one_upd⟩
theorem appRen_h {H : Hp} {n m a b c i : Nat} {fid : Nat → Nat} {d : DirD} {s t : ByteArray} (hm : H m = some (mapA fid d)) (ha : H a = some (.cells [strA s])) (hb : H b = some (.cells [fA fid i])) (hc : H c = some (.cells [strA t])) :
    HCalls Tryd.prog 43 [.mp m, .ptr a 0, .ptr b 0, .ptr c 0] H n (AppPost H n m fid ((ChD.ren s t i).app d)) := by
  refine hcallsC_of (rs := []) ⟨[0, 1, 2, 3], [], [], []⟩ TOk mixed Tryd.func43 rfl rfl (by kernel_rfl) (by kernel_rfl) rfl ?_
  have hma : (m == a) = false := by
    rw [← Bool.not_eq_true, beq_iff_eq]; intro e; rw [e, ha] at hm; cases hm
  have hmb : (m == b) = false := by
    rw [← Bool.not_eq_true, beq_iff_eq]; intro e; rw [e, hb] at hm; cases hm
  have hmc : (m == c) = false := by
    rw [← Bool.not_eq_true, beq_iff_eq]; intro e; rw [e, hc] at hm; cases hm
  have hm' := hm
  unfold mapA at hm'
  unfold strA at ha hc
  unfold fA at hb
  -- what stands behind the deletion
  have hD : ∃ es : List NmE, delE d.1 s = es ∧ ∃ mf, mfind (.lit (.string s)) (d.1.map (Ent.me strA (fA fid))) 0 = some mf ∧ (∀ i v, mf = some (i, v) → (d.1.map (Ent.me strA (fA fid))).eraseIdx i = es.map (Ent.me strA (fA fid))) ∧ (mf = none → d.1.map (Ent.me strA (fA fid)) = es.map (Ent.me strA (fA fid))) := by
    cases hl : lookE d.1 s with
    | none => exact ⟨_, del_no hl, none, mfind_no (vA := fA fid) keyOk_strA hl, ⟨fun i v h => (nomatch h), fun _ => rfl⟩⟩
    | some v =>
      obtain ⟨j, x, hfe, hx, _, _, hf⟩ := mfind_yes (vA := fA fid) keyOk_strA hl
      refine ⟨_, del_old hfe, _, hf, fun i v h => ?_, fun h => nomatch h⟩
      injection h with h; injection h with h1 h2
      subst h1
      exact map_erase _ _ _
  obtain ⟨es, hde, mf, hmf, hm1, hm2⟩ := hD
  have happ : (ChD.ren s t i).app d = putE es d.2 t i := by show putE (delE d.1 s) d.2 t i = _; rw [hde]
  rw [happ]
  refine' meetG (fun meet => _) _
  rotate_left
  · rcases mf with _ | ⟨j, v⟩
    · rw [hm2 rfl] at hm' hmf
      simp only [push_cast, Nat.reduceBEq, Nat.reduceAdd, Nat.reduceEqDiff, reduceCtorEq, Nat.reduceLeDiff, Nat.reduceSub, Nat.reduceMul, Nat.reduceLT, Int.reduceEq, Int.reduceLT, Int.reduceLE, Int.reduceBEq, Int.reduceBNe, Int.reduceToNat, Int.reduceNeg, Int.reduceSub, Int.reduceAdd, hm', ha, hmf, hma]
      generalize hH : upd H m _ = H1
      have h1 : H1 m = some (.map (es.map (Ent.me strA (fA fid))) d.2) := by rw [← hH, upd_same]
      have h2 : ∀ j, j ≠ m → H1 j = H j := by rw [← hH]; exact one_upd
      clear hH
      revert H1
      exact meet
    · simp only [push_cast, Nat.reduceBEq, Nat.reduceAdd, Nat.reduceEqDiff, reduceCtorEq, Nat.reduceLeDiff, Nat.reduceSub, Nat.reduceMul, Nat.reduceLT, Int.reduceEq, Int.reduceLT, Int.reduceLE, Int.reduceBEq, Int.reduceBNe, Int.reduceToNat, Int.reduceNeg, Int.reduceSub, Int.reduceAdd, hm', ha, hmf, hma]
      rw [hm1 j v rfl]
      generalize hH : upd H m _ = H1
      have h1 : H1 m = some (.map (es.map (Ent.me strA (fA fid))) d.2) := by rw [← hH, upd_same]
      have h2 : ∀ j, j ≠ m → H1 j = H j := by rw [← hH]; exact one_upd
      clear hH
      revert H1
      exact meet
  · intro H1 h1 h2
    have hb1 : H1 b = _ := (h2 b (by intro e; rw [e] at hmb; simp at hmb)).trans hb
    have hc1 : H1 c = _ := (h2 c (by intro e; rw [e] at hmc; simp at hmc)).trans hc
    cases hl : lookE es t with
    | none =>
      have hf := mfind_no (vA := fA fid) keyOk_strA hl
      simp only [strA] at hf
      simp only [push_cast, Nat.reduceBEq, Nat.reduceAdd, Nat.reduceEqDiff, reduceCtorEq, Nat.reduceLeDiff, Nat.reduceSub, Nat.reduceMul, Nat.reduceLT, Int.reduceEq, Int.reduceLT, Int.reduceLE, Int.reduceBEq, Int.reduceBNe, Int.reduceToNat, Int.reduceNeg, Int.reduceSub, Int.reduceAdd, h1, hb, hc, hmb, hmc, hb1, hc1, hf]
      exact ⟨rfl, rfl, by rw [upd_same]; exact congrArg some (put_me (d := (es, d.2)) hl).symm, fun j hj => (one_upd j hj).trans (h2 j hj)⟩
    | some v =>
      obtain ⟨j, x, hfe, hx, _, _, hf⟩ := mfind_yes (vA := fA fid) keyOk_strA hl
      simp only [strA] at hf
      simp only [push_cast, Nat.reduceBEq, Nat.reduceAdd, Nat.reduceEqDiff, reduceCtorEq, Nat.reduceLeDiff, Nat.reduceSub, Nat.reduceMul, Nat.reduceLT, Int.reduceEq, Int.reduceLT, Int.reduceLE, Int.reduceBEq, Int.reduceBNe, Int.reduceToNat, Int.reduceNeg, Int.reduceSub, Int.reduceAdd, h1, hb, hc, hmb, hmc, hb1, hc1, hf, hx]
      exact ⟨rfl, rfl, by rw [upd_same]; exact congrArg some (put_me' (d := (es, d.2)) hfe hx).symm, fun j hj => (one_upd j hj).trans (h2 j hj)⟩
/-- A change's function does it. -/
theorem ch_h {H : Hp} {n m : Nat} {fid : Nat → Nat} {S : Nat → Prop} {d : DirD} {f : FuncId} {caps : List AV} {c : ChD} (hc : ChIs H fid S [.fn f caps] c) (hm : H m = some (mapA fid d)) : HCalls Tryd.prog f (.mp m :: caps) H n (AppPost H n m fid (c.app d)) := by
  cases c with
  | new k i =>
    obtain ⟨a, b, h1, h2, h3, _⟩ := hc
    simp only [List.cons.injEq, AV.fn.injEq, and_true] at h1
    obtain ⟨rfl, rfl⟩ := h1
    exact appNew_h hm h2 h3
  | ren s t i =>
    obtain ⟨a, b, c, h1, h2, h3, h4, _⟩ := hc
    simp only [List.cons.injEq, AV.fn.injEq, and_true] at h1
    obtain ⟨rfl, rfl⟩ := h1
    exact appRen_h hm h2 h3 h4
  | rem k =>
    obtain ⟨a, h1, h2, _⟩ := hc
    simp only [List.cons.injEq, AV.fn.injEq, and_true] at h1
    obtain ⟨rfl, rfl⟩ := h1
    exact appRem_h hm h2
theorem ChIs.fn {H : Hp} {fid : Nat → Nat} {S : Nat → Prop} {it : List AV} {c : ChD} (h : ChIs H fid S it c) : ∃ f caps, it = [.fn f caps] := by
  cases c with
  | new k i => obtain ⟨a, b, h1, _⟩ := h; exact ⟨_, _, h1⟩
  | ren s t i => obtain ⟨a, b, c, h1, _⟩ := h; exact ⟨_, _, h1⟩
  | rem k => obtain ⟨a, h1, _⟩ := h; exact ⟨_, _, h1⟩
/-- A map of the directory turns. -/
theorem FsH.renow {H H' : Hp} {S : Nat → Prop} {p : Nat} {L : FsL} {d : FsD} (h : FsH H S p L d) (dn : DirD) (hh : ∀ j, j ≠ L.mn → H' j = H j) (ht : H' L.mn = some (mapA L.fid dn)) : FsH H' S p L { d with now := dn } := by
  have hr : ∀ j o, (∀ es c, o ≠ AO.map es c) → H j = some o → H' j = some o := fun j o ho e => by
    rw [hh j fun hj => ?_]; exact e
    subst hj
    rw [h.now] at e
    injection e with e
    unfold mapA at e
    exact ho _ _ e.symm
  refine ⟨hr _ _ (fun _ _ e => by cases e) h.top, ht, (hh _ h.ne.symm).trans h.last, h.ne, fun i x hx => ?_, h.finj, h.rinj, h.wait.keep (fun j _ _ e => hr j _ (fun _ _ e => by cases e) e) (fun j cs _ _ e => hr j _ (fun _ _ e => by cases e) e) (fun _ hs => hs), h.Sp, h.Sn, h.Sl, h.Sf⟩
  obtain ⟨bv, h1, h2⟩ := h.file i x hx
  refine ⟨bv, hr _ _ (fun _ _ e => by cases e) h1, ?_⟩
  rcases h2 with h2 | ⟨h2, h3⟩
  · exact .inl h2
  · exact .inr ⟨h2, hr _ _ (fun _ _ e => by cases e) h3⟩
/-- A change waits. -/
theorem FsH.rewait {H H' : Hp} {S : Nat → Prop} {n p : Nat} {L : FsL} {d : FsD} {it : List AV} {c : ChD} {r : Nat} {items : List (List AV)} (h : FsH H S p L d) (hS : ∀ j, S j → j < n) (hr : n ≤ r) (hc : ChIs H L.fid S it c)
    (hw : items.length = d.wait.length ∧ ∀ (k : Nat) (it : List AV) (c : ChD), items[k]? = some it → d.wait[k]? = some c → ChIs H L.fid S it c)
    (hh : ∀ j, j < n → j ≠ p → (∀ its, H j ≠ some (.row false 81 its)) → H' j = H j) (ht : H' p = some (.cells [.lit (.int .i64 d.room), .mp L.mn, .mp L.ml, .rw r 1 0 (d.wait.length + 1), .lit (.bool d.off), .lit (.bool d.armed), .lit (.int .i64 d.left)])) (hrow : H' r = some (.row false 81 (items ++ [it]))) :
    FsH H' (fun j => S j ∨ j = r) p { L with wv := .rw r 1 0 (d.wait.length + 1) } { d with wait := d.wait ++ [c] } := by
  have hc1 : ∀ j cs, S j → cs.length ≠ 7 → H j = some (.cells cs) → H' j = some (.cells cs) := fun j cs hs hl e => by
    rw [hh j (hS j hs) (fun hj => ?_) (fun its he => by rw [e] at he; cases he)]; exact e
    subst hj
    rw [h.top] at e
    injection e with e; injection e with e
    subst e
    exact hl rfl
  have hm : ∀ j es k, S j → H j = some (.map es k) → H' j = some (.map es k) := fun j es k hs e => by
    rw [hh j (hS j hs) (fun hj => ?_) (fun its he => by rw [e] at he; cases he)]; exact e
    subst hj
    rw [h.top] at e; cases e
  have hb : ∀ j its, S j → H j = some (.row true 5 its) → H' j = some (.row true 5 its) := fun j its hs e => by
    rw [hh j (hS j hs) (fun hj => ?_) (fun its he => by rw [e] at he; cases he)]; exact e
    subst hj
    rw [h.top] at e; cases e
  refine ⟨ht, hm _ _ _ h.Sn h.now, hm _ _ _ h.Sl h.last, h.ne, fun i x hx => ?_, h.finj, h.rinj, .inr ⟨r, items ++ [it], by rw [List.length_append]; rfl, hrow, .inr rfl, by rw [List.length_append, List.length_append, hw.1]; rfl, fun k it' c' hk hk' => ?_⟩, .inl h.Sp, .inl h.Sn, .inl h.Sl, fun i hi => ⟨.inl (h.Sf i hi).1, .inl (h.Sf i hi).2⟩⟩
  · obtain ⟨bv, h1, h2⟩ := h.file i x hx
    have hsf := h.Sf i (List.getElem?_eq_some_iff.1 hx).1
    refine ⟨bv, hc1 _ _ hsf.1 (by simp) h1, ?_⟩
    rcases h2 with h2 | ⟨h2, h3⟩
    · exact .inl h2
    · exact .inr ⟨h2, hb _ _ hsf.2 h3⟩
  · have key : ∀ {it' : List AV} {c' : ChD}, ChIs H L.fid S it' c' → ChIs H' L.fid (fun j => S j ∨ j = r) it' c' := fun h => h.keep (fun j cs hs hl e => hc1 j cs hs (by omega) e) (fun j hs => .inl hs)
    by_cases hlt : k < items.length
    · rw [List.getElem?_append_left hlt] at hk
      rw [List.getElem?_append_left (by rw [← hw.1]; exact hlt)] at hk'
      exact key (hw.2 k it' c' hk hk')
    · rw [List.getElem?_append_right (by omega)] at hk
      rw [List.getElem?_append_right (by rw [← hw.1]; omega), ← hw.1] at hk'
      cases hz : k - items.length with
      | zero =>
        rw [hz] at hk hk'
        simp only [List.getElem?_cons_zero, Option.some.injEq] at hk hk'
        subst hk hk'
        exact key hc
      | succ z => rw [hz] at hk; simp at hk
theorem do_h {H : Hp} {S : Nat → Prop} {n p : Nat} {L : FsL} {d : FsD} {f : FuncId} {caps : List AV} {c : ChD} (h : FsH H S p L d) (hS : ∀ j, S j → j < n) (hc : ChIs H L.fid S [.fn f caps] c) (hl : d.wait.length ≤ 1000000) :
    HCalls Tryd.prog 35 [.ptr p 0, .fn f caps] H n (fun r H' n' => r = .tup [] ∧ n' = n + 2 ∧ FsH H' (fun j => S j ∨ j = n + 1) p { L with wv := .rw (n + 1) 1 0 (d.wait.length + 1) } (d.doit c) ∧ ∀ j, j < n → ¬ S j → H' j = H j) := by
  refine hcallsC_of (rs := []) ⟨[0, 1], [], [], []⟩ TOk mixed Tryd.func35 rfl rfl (by kernel_rfl) (by kernel_rfl) rfl ?_
  have h0 := h.top
  unfold topA at h0
  simp only [push_cast, Nat.reduceBEq, Nat.reduceAdd, Nat.reduceEqDiff, reduceCtorEq, Nat.reduceLeDiff, Nat.reduceSub, Nat.reduceMul, Nat.reduceLT, Int.reduceEq, Int.reduceLT, Int.reduceLE, Int.reduceBEq, Int.reduceBNe, Int.reduceToNat, Int.reduceNeg, Int.reduceSub, Int.reduceAdd, h0]
  refine callH (ch_h hc h.now) ?_
  rintro _ H1 n1 ⟨rfl, rfl, hm1, hold⟩
  have hd1 := h.renow (c.app d.now) hold hm1
  have hnp : p ≠ L.mn := fun e => by have := h.now; rw [← e, h.top] at this; unfold mapA at this; cases this
  have hp1 := (hold p hnp).trans h0
  have hpn := hS _ h.Sp
  have e1 : (n1 == p) = false := by rw [← Bool.not_eq_true, beq_iff_eq]; omega
  have e2 : (n1 + 1 == p) = false := by rw [← Bool.not_eq_true, beq_iff_eq]; omega
  have hc1 : ChIs H1 L.fid S [.fn f caps] c := hc.keep (fun j cs _ _ e => by rw [hold j fun hj => ?_]; exact e; rw [hj, h.now] at e; unfold mapA at e; cases e) (fun _ hs => hs)
  rcases hd1.wait with ⟨hw, hwait⟩ | ⟨r, items, hw, hrow, hSr, hlen, hits⟩
  · have hw' : L.wv = .lit (.slice none 0 0) := hw
    have hwait' : d.wait = [] := hwait
    rw [hw'] at hp1
    simp only [push_cast, Nat.reduceBEq, Nat.reduceAdd, Nat.reduceEqDiff, reduceCtorEq, Nat.reduceLeDiff, Nat.reduceSub, Nat.reduceMul, Nat.reduceLT, Int.reduceEq, Int.reduceLT, Int.reduceLE, Int.reduceBEq, Int.reduceBNe, Int.reduceToNat, Int.reduceNeg, Int.reduceSub, Int.reduceAdd, hp1, e1, e2, nbq1_0 n1, nbq0_1 n1]
    refine ⟨?_, fun j hj hs => ?_⟩
    · have := hd1.rewait (H' := upd (upd (upd H1 n1 (some (.row false 81 [[.fn f caps]]))) (n1 + 1) (some (.row false 81 [[.fn f caps]]))) p (some (.cells [.lit (.int .i64 d.room), .mp L.mn, .mp L.ml, .rw (n1 + 1) 1 0 1, .lit (.bool d.off), .lit (.bool d.armed), .lit (.int .i64 d.left)]))) (n := n1) (r := n1 + 1) (items := []) (it := [.fn f caps]) (c := c) hS (by omega) hc1 ⟨by rw [hwait]; rfl, fun k it c hk => by simp at hk⟩ (fun j hj hjp _ => ?_) ?_ ?_
      · exact this
      · rw [upd_other (fun e => hjp e.symm), upd_other (by omega), upd_other (by omega)]
      · rw [upd_same, hwait]; rfl
      · rw [upd_other (by omega), upd_same]; rfl
    · rw [nb (fun e => hs (by rw [← e]; exact h.Sp)), nb (show n1 + 1 ≠ j by omega), nb (show n1 ≠ j by omega)]
      exact hold j fun e => hs (by rw [e]; exact h.Sn)
  · have hw' : L.wv = .rw r 1 0 d.wait.length := hw
    have hlen' : items.length = d.wait.length := hlen
    rw [hw'] at hp1
    have hrp : (r == p) = false := by
      rw [← Bool.not_eq_true, beq_iff_eq]; intro e; rw [e, hp1] at hrow; cases hrow
    have hrn := hS _ hSr
    have e3 : (n1 == r) = false := by rw [← Bool.not_eq_true, beq_iff_eq]; omega
    have hb : (items.length + 1) * 8 ≤ 140737488355328 := by omega
    rw [← hlen'] at hp1
    simp only [push_cast, Nat.reduceBEq, Nat.reduceAdd, Nat.reduceEqDiff, reduceCtorEq, Nat.reduceLeDiff, Nat.reduceSub, Nat.reduceMul, Nat.reduceLT, Int.reduceEq, Int.reduceLT, Int.reduceLE, Int.reduceBEq, Int.reduceBNe, Int.reduceToNat, Int.reduceNeg, Int.reduceSub, Int.reduceAdd, hp1, e1, e2, e3, hrp, hrow, hb, nbq1_0 n1, nbq0_1 n1]
    refine ⟨?_, fun j hj hs => ?_⟩
    · have := hd1.rewait (H' := upd (upd (upd (upd H1 n1 (some (.row false 81 [[.fn f caps]]))) r (oldO false 81 items)) (n1 + 1) (some (.row false 81 (items ++ [[.fn f caps]])))) p (some (.cells [.lit (.int .i64 d.room), .mp L.mn, .mp L.ml, .rw (n1 + 1) 1 0 (items.length + 1), .lit (.bool d.off), .lit (.bool d.armed), .lit (.int .i64 d.left)]))) (n := n1) (r := n1 + 1) (items := items) (it := [.fn f caps]) (c := c) hS (by omega) hc1 ⟨hlen, hits⟩ (fun j hj hjp hnr => ?_) ?_ ?_
      · exact this
      · rw [upd_other (fun e => hjp e.symm), upd_other (by omega), upd_other (fun e => hnr items (by rw [← e]; exact hrow)), upd_other (by omega)]
      · rw [upd_same, hlen]
      · rw [upd_other (by omega), upd_same]
    · rw [nb (fun e => hs (by rw [← e]; exact h.Sp)), nb (show n1 + 1 ≠ j by omega), nb (fun e => hs (by rw [← e]; exact hSr)), nb (show n1 ≠ j by omega)]
      exact hold j fun e => hs (by rw [e]; exact h.Sn)
end Go.Proofs.YtjmafbdakalknaaDoor
