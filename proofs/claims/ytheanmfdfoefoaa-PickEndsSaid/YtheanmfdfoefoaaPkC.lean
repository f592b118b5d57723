/- The walk over an abstract heap, texts PkB to PkC in one. -/
import Derived.Test.YtheanmfdfoefoaaEdOwn
import Derived.Test.YtheanmfdfoefoaaHvRow
import Derived.Test.YtheanmfdfoefoaaPickNext
import Derived.Test.YtheanmfdfoefoaaPickConv
import Derived.Test.YtheanmfdfoefoaaPkP
import Derived.Test.YtheanmfdfoefoaaEdDoc
import Derived.Test.YtheanmfdfoefoaaEdFns
set_option linter.unusedVariables false
set_option linter.unusedSimpArgs false
set_option linter.unusedVariables false
set_option linter.unusedSimpArgs false
namespace Go.Proofs.Ytheanmfdfoefoaa
open Go Go.RowKit Hv
def limH (l : LimD) : AV := .agg [.lit (.int .i64 l.tables), .lit (.int .i64 l.bytes)]
def jobH (j : JobD) : AV := .agg [.lit (.int .i64 j.level), .sl (j.frm.map metaH), .sl (j.too.map metaH), .lit (.bool j.bottom)]
theorem noId_job (j : JobD) : NoId (jobH j) := by simp [jobH, noId_agg, noId_lit, noId_metas]
theorem noId_lim (l : LimD) : NoId (limH l) := by simp [limH, noId_agg, noId_lit]
theorem rep_limV {w : World} {W : Nat → Nat → Prop} {gb : Gb} {l : LimD} {v : Value} (h : Rep w W gb (limH l) v) : v = .agg #[.int .i64 l.tables, .int .i64 l.bytes] := rep_val h rfl
theorem tables19_h (l : List MetaD) (hl : l.length ≤ 1000000) : Hv.ACalls Try.prog 28 [.sl (l.map metaH)] (.sl (l.map metaH)) := by
  refine ⟨by kernel_rfl, fun w W gb vs hW hl' hr => ?_⟩
  match vs, hl', hr with
  | [v], _, hr =>
    exact (tables_calls l v w (rd_of_rep metaH_lit' metaC_len (hr 0 _ _ rfl rfl)) hl).mono fun e w' ⟨v', h1, h2, h3⟩ => ⟨_, h1, rep_of_own hW metaH_lit' metaC_len metaC_one (by decide) h2, h3⟩
theorem metas19_h (l : List MetaD) (hl : l.length ≤ 1000000) : Hv.ACalls Try.prog 23 [.sl (l.map metaH)] (.sl (l.map metaH)) := by
  refine ⟨by kernel_rfl, fun w W gb vs hW hl' hr => ?_⟩
  match vs, hl', hr with
  | [v], _, hr =>
    exact (metas_calls l v w (rd_of_rep metaH_lit' metaC_len (hr 0 _ _ rfl rfl)) hl).mono fun e w' ⟨v', h1, h2, h3⟩ => ⟨_, h1, rep_of_own hW metaH_lit' metaC_len metaC_one (by decide) h2, h3⟩
theorem own_one {w : World} {base e sz n : Nat} {v : Value} {xs : List Value} (h : w.ownsRow base e sz v n xs) : v.oneCell' = true := by
  rcases h.2 with ⟨rfl, _⟩ | ⟨g, cap, cur, rfl, _⟩ <;> rfl
theorem next_h (s : StD) (lim : LimD) (g : Gd s 30) : Hv.ACalls Try.prog 17 [stH s, limH lim] (.tup [jobH (nextD s lim).1, .lit (.bool (nextD s lim).2.1), .lit (.int .i64 (nextD s lim).2.2)]) := by
  refine ⟨by kernel_rfl, fun w W gb vs hW hl' hr => ?_⟩
  match vs, hl', hr with
  | [v, u], _, hr =>
    obtain ⟨f, rfl, hf⟩ := rd_st (hr 0 _ _ rfl rfl)
    obtain rfl := rep_limV (hr 1 _ _ rfl rfl)
    refine (Next_calls s f lim w hf g).mono fun e w' ⟨vf, vt, h1, h2, h3, h4⟩ => ⟨_, h1, ?_, h4⟩
    have hj : Rep w' W gb (jobH (nextD s lim).1) (.agg #[.int .i64 (nextD s lim).1.level, vf, vt, .bool (nextD s lim).1.bottom]) :=
      Rep.agg _ [.int .i64 (nextD s lim).1.level, vf, vt, .bool (nextD s lim).1.bottom] rfl
        (List.forall_mem_cons.2 ⟨rfl, List.forall_mem_cons.2 ⟨own_one h2, List.forall_mem_cons.2 ⟨own_one h3, List.forall_mem_cons.2 ⟨rfl, fun _ h => absurd h List.not_mem_nil⟩⟩⟩⟩)
        (reps_cons (.lit _) (reps_cons (rep_of_own hW metaH_lit' metaC_len metaC_one (by decide) h2) (reps_cons (rep_of_own hW metaH_lit' metaC_len metaC_one (by decide) h3) (reps_cons (.lit _) reps_nil))))
    exact Rep.tup _ [_, .bool (nextD s lim).2.1, .int .i64 (nextD s lim).2.2] rfl (reps_cons hj (reps_cons (.lit _) (reps_cons (.lit _) reps_nil)))
theorem full_h (l : LimD) (n : Int) : Hv.ACalls Try.prog 19 [limH l, .lit (.int .i64 n)] (.tup [.lit (.int .i64 (fullD l n).1), .lit (.int .i64 (fullD l n).2)]) := by
  refine ⟨by kernel_rfl, fun w W gb vs hW hl' hr => ?_⟩
  match vs, hl', hr with
  | [v, u], _, hr =>
    obtain rfl := rep_limV (hr 0 _ _ rfl rfl)
    obtain rfl := rep_lit (hr 1 _ _ rfl rfl)
    exact (Full_calls l n w).mono fun e w' h => ⟨_, h.1, Rep.tup _ [_, _] rfl (reps_cons (.lit _) (reps_cons (.lit _) reps_nil)), h.2⟩
end Go.Proofs.Ytheanmfdfoefoaa
set_option linter.unusedVariables false
set_option linter.unusedSimpArgs false
namespace Go.Proofs.Ytheanmfdfoefoaa
open Go Go.RowKit Hv
set_option maxRecDepth 20000
set_option maxHeartbeats 8000000
/-- An edit that grows: what is read, the answer, the edit so far. -/
structure BM (c0 : List AV) (tp ta : Nat) (a b c : Int) (g : List PlD) (gv : AV) (n : List AddD) (nv : AV) (nx : Nat) (H : Hp) : Prop where
  n3 : 3 ≤ nx
  r0 : H 0 = some (.cells c0)
  r1 : H 1 = some (.cells zE5')
  r2 : H 2 = some (.cells [.lit (.int .i64 a), .lit (.int .i64 b), .lit (.int .i64 c), gv, nv])
  rg : NilR H 3 nx tp 2 gv (g.map plH)
  rn : NilR H 3 nx ta 5 nv (n.map addH)
def ridIs (v : AV) (j : Nat) : Prop := match v with
  | .rw id _ _ _ => j = id
  | _ => False
theorem BM.putG {c0 : List AV} {tp ta : Nat} {a b c : Int} {g : List PlD} {gv : AV} {n : List AddD} {nv : AV} {nx nx' k id : Nat} {p : PlD} {H H' : Hp} (h : BM c0 tp ta a b c g gv n nv nx H) (hne : tp ≠ ta) (hk : k = (g ++ [p]).length) (h1 : nx ≤ id) (h2 : id < nx')
    (e2 : H' 2 = some (.cells [.lit (.int .i64 a), .lit (.int .i64 b), .lit (.int .i64 c), .rw id 2 0 k, nv])) (e3 : H' id = some (.row false tp ((g ++ [p]).map plH))) (fr : ∀ j, j < nx → j ≠ 2 → ¬ ridIs gv j → H' j = H j) : BM c0 tp ta a b c (g ++ [p]) (.rw id 2 0 k) n nv nx' H' := by
  obtain ⟨n3, r0, r1, r2, rg, rn⟩ := h
  have key : ∀ j, (∃ t its, H j = some (.row false t its) ∧ t ≠ tp) ∨ (∃ cs, H j = some (.cells cs)) → ¬ ridIs gv j := fun j hj hr => by
    rcases rg with ⟨rfl, _⟩ | ⟨id0, rfl, _, _, h4⟩
    · exact hr
    · have : j = id0 := hr
      subst this
      rcases hj with ⟨t, its, h5, h6⟩ | ⟨cs, h5⟩
      · rw [h4] at h5; injection h5 with h5; injection h5 with _ h5 _; exact h6 h5.symm
      · rw [h4] at h5; cases h5
  refine ⟨by omega, (fr 0 (by omega) (by decide) (key 0 (.inr ⟨_, r0⟩))).trans r0, (fr 1 (by omega) (by decide) (key 1 (.inr ⟨_, r1⟩))).trans r1, e2, .inr ⟨id, by rw [hk, List.length_map], by omega, h2, e3⟩, ?_⟩
  rcases rn with h | ⟨id0, rfl, h5, h6, h7⟩
  · exact .inl h
  · exact .inr ⟨id0, rfl, h5, by omega, (fr id0 h6 (by omega) (key id0 (.inl ⟨_, _, h7, fun e => hne e.symm⟩))).trans h7⟩
theorem BM.putN {c0 : List AV} {tp ta : Nat} {a b c : Int} {g : List PlD} {gv : AV} {n : List AddD} {nv : AV} {nx nx' k id : Nat} {p : AddD} {H H' : Hp} (h : BM c0 tp ta a b c g gv n nv nx H) (hne : tp ≠ ta) (hk : k = (n ++ [p]).length) (h1 : nx ≤ id) (h2 : id < nx')
    (e2 : H' 2 = some (.cells [.lit (.int .i64 a), .lit (.int .i64 b), .lit (.int .i64 c), gv, .rw id 5 0 k])) (e3 : H' id = some (.row false ta ((n ++ [p]).map addH))) (fr : ∀ j, j < nx → j ≠ 2 → ¬ ridIs nv j → H' j = H j) : BM c0 tp ta a b c g gv (n ++ [p]) (.rw id 5 0 k) nx' H' := by
  obtain ⟨n3, r0, r1, r2, rg, rn⟩ := h
  have key : ∀ j, (∃ t its, H j = some (.row false t its) ∧ t ≠ ta) ∨ (∃ cs, H j = some (.cells cs)) → ¬ ridIs nv j := fun j hj hr => by
    rcases rn with ⟨rfl, _⟩ | ⟨id0, rfl, _, _, h4⟩
    · exact hr
    · have : j = id0 := hr
      subst this
      rcases hj with ⟨t, its, h5, h6⟩ | ⟨cs, h5⟩
      · rw [h4] at h5; injection h5 with h5; injection h5 with _ h5 _; exact h6 h5.symm
      · rw [h4] at h5; cases h5
  refine ⟨by omega, (fr 0 (by omega) (by decide) (key 0 (.inr ⟨_, r0⟩))).trans r0, (fr 1 (by omega) (by decide) (key 1 (.inr ⟨_, r1⟩))).trans r1, e2, ?_, .inr ⟨id, by rw [hk, List.length_map], by omega, h2, e3⟩⟩
  rcases rg with h | ⟨id0, rfl, h5, h6, h7⟩
  · exact .inl h
  · exact .inr ⟨id0, rfl, h5, by omega, (fr id0 h6 (by omega) (key id0 (.inl ⟨_, _, h7, fun e => hne e⟩))).trans h7⟩
theorem BM.fin {c0 : List AV} {tp ta : Nat} {a b c : Int} {g : List PlD} {gv : AV} {n : List AddD} {nv : AV} {nx : Nat} {H : Hp} (h : BM c0 tp ta a b c g gv n nv nx H) (x : List AV) : AV.view1 (sealH (upd H 1 (some (.cells x)))) gv = .sl (g.map plH) ∧ AV.view1 (sealH (upd H 1 (some (.cells x)))) nv = .sl (n.map addH) ∧ AV.isOne gv = true ∧ AV.isOne nv = true :=
  ⟨nilR_view h.rg (fun j hj => upd_other (by omega)), nilR_view h.rn (fun j hj => upd_other (by omega)), nilR_one h.rg, nilR_one h.rn⟩
theorem docDone_h (j : JobD) (made : List MetaD) (hj : 0 ≤ j.level ∧ j.level ≤ 10) (hf : j.frm.length ≤ 100000) (ht : j.too.length ≤ 100000) (hm : made.length ≤ 100000) : Hv.ACalls Try.prog 29 [jobH j, .sl (made.map metaH)] (edH (doneE j made)) := by
  refine acallsC_of (rs := [.cell 4 62]) ⟨[0, 1, 2, 4, 5, 6, 7, 8, 14, 35, 56], [], [], [(5, [(0, [], []), (1, [], []), (2, [], []), (3, [], []), (4, [], []), (5, [], []), (6, [], []), (7, [], []), (8, [], []), (9, [], []), (10, [], []), (11, [], []), (12, [], [1, 11, 0, 10, 3, 9, 2, 8, 7, 5, 6, 4]), (13, [], []), (14, [], [13, 12, 0, 1, 2, 3, 4, 5, 6, 7, 8, 9, 10, 11])]), (9, [(0, [], []), (1, [], []), (2, [], []), (3, [], []), (4, [], []), (5, [], []), (6, [], []), (7, [], []), (8, [], []), (9, [], []), (10, [], []), (11, [], []), (12, [], []), (13, [], [1, 12, 0, 11, 4, 10, 3, 9, 2, 8, 6, 7, 5]), (14, [], []), (15, [], [14, 13, 0, 1, 2, 3, 4, 5, 6, 7, 8, 9, 10, 11, 12])]), (13, [(0, [], []), (1, [], []), (2, [], []), (3, [], []), (4, [], []), (5, [], []), (6, [], []), (7, [], []), (8, [], []), (9, [], []), (10, [], []), (11, [], [1, 10, 0, 9, 4, 8, 3, 7, 2, 5, 6]), (12, [], []), (13, [], [12, 11, 0, 1, 2, 3, 4, 5, 6, 7, 8, 9, 10])])], []⟩ TOk mixed Try.func29 rfl rfl (by kernel_rfl) (by kernel_rfl) rfl (nid2 (noId_job j) (noId_metas made)) (noId_ed _) ?_
  obtain ⟨lv, frm, too, bot⟩ := j
  simp only at hj hf ht
  have hwl : IntKind.i64.wrap (lv + 1) = lv + 1 := IntWalk.i64_in _ (by omega)
  simp only [push_cast, Nat.reduceBEq, Nat.reduceAdd, Nat.reduceEqDiff, reduceCtorEq, Nat.reduceLeDiff, Nat.reduceSub, Nat.reduceMul, Nat.reduceLT, Int.reduceEq, Int.reduceLT, Int.reduceLE, Int.reduceBEq, Int.reduceBNe, Int.reduceToNat, Int.reduceNeg, Int.reduceSub, Int.reduceAdd, jobH]
  refine loopK (fun m x => ∃ (k nx : Nat) (uv : AV) (H : Hp), x = ⟨[(1, .sl (made.map metaH)), (2, .ptr 0 0), (4, .ptr 1 0), (5, .ptr 2 0), (6, .lit (.int .i64 (k : Int)))], H, nx⟩ ∧ k ≤ frm.length ∧ m = frm.length - k ∧ BM [.lit (.int .i64 lv), .sl (frm.map metaH), .sl (too.map metaH), .lit (.bool bot)] 86 84 (-1) (-1) (-1) (([] : List PlD) ++ (frm.take k).map fun m => (⟨lv, m.file⟩ : PlD)) uv [] (.lit (.slice none 0 0)) nx H) _ [1, 2, 4, 5, 6] (by exact ⟨0, 3, _, _, rfl, by omega, rfl, ⟨by omega, rfl, rfl, rfl, .inl ⟨rfl, rfl⟩, .inl ⟨rfl, rfl⟩⟩⟩) ?_
  rintro m _ ⟨k, nx, uv, H, rfl, hk, rfl, hB⟩
  have n3 := hB.n3
  have r0 := hB.r0
  have r2 := hB.r2
  have hnext : ∀ x, frm[k]? = some x → (([] : List PlD) ++ (frm.take (k + 1)).map fun m => (⟨lv, m.file⟩ : PlD)) = (([] : List PlD) ++ (frm.take k).map fun m => (⟨lv, m.file⟩ : PlD)) ++ [⟨lv, x.file⟩] := fun x hx => by rw [List.take_add_one, hx, List.map_append, ← List.append_assoc]; rfl
  have hfin : frm.length ≤ k → (([] : List PlD) ++ (frm.take k).map fun m => (⟨lv, m.file⟩ : PlD)) = ([] : List PlD) ++ frm.map fun m => (⟨lv, m.file⟩ : PlD) := fun h => by rw [List.take_of_length_le h]
  have hlen : (([] : List PlD) ++ (frm.take k).map fun m => (⟨lv, m.file⟩ : PlD)).length ≤ 400000 := by simp only [List.length_append, List.length_map, List.length_nil, List.length_take]; omega
  generalize (([] : List PlD) ++ (frm.take k).map fun m => (⟨lv, m.file⟩ : PlD)) = out at hB hnext hfin hlen
  by_cases h : k < frm.length
  · obtain ⟨x, hx⟩ : ∃ x, frm[k]? = some x := ⟨_, List.getElem?_eq_getElem h⟩
    have hnext := hnext x hx
    try simp only [List.nil_append] at hnext
    have hwk := wrap_nat (k := k) (by omega)
    have hb : (out.length + 1) * 16 ≤ 140737488355328 := by omega
    have e0 : (nx == 2) = false := neB (by omega)
    rcases id hB.rg with ⟨rfl, hnil⟩ | ⟨id, rfl, i3, ilt, hrow⟩
    · obtain rfl : out = [] := by simpa using hnil
      simp only [push_cast, Nat.reduceBEq, Nat.reduceAdd, Nat.reduceEqDiff, reduceCtorEq, Nat.reduceLeDiff, Nat.reduceSub, Nat.reduceMul, Nat.reduceLT, Int.reduceEq, Int.reduceLT, Int.reduceLE, Int.reduceBEq, Int.reduceBNe, Int.reduceToNat, Int.reduceNeg, Int.reduceSub, Int.reduceAdd, h, r0, r2, hx, metaH, hwk, e0]
      refine ⟨_, by omega, k + 1, nx + 1, .rw (nx) 2 0 1, _, rfl, by omega, rfl, ?_⟩
      rw [hnext]
      refine hB.putG (by decide) rfl (id := nx) (by omega) (by omega) (upd_same _ _ _) ?_ (fun j hj h2 hr => ?_)
      · rw [upd_other (by omega), upd_same]; rfl
      · (repeat rw [upd_other (by omega)])
    · have f0 : (nx == id) = false := neB (by omega)
      have fid : (id == 2) = false := neB (by omega)
      rw [List.length_map] at r2
      simp only [push_cast, Nat.reduceBEq, Nat.reduceAdd, Nat.reduceEqDiff, reduceCtorEq, Nat.reduceLeDiff, Nat.reduceSub, Nat.reduceMul, Nat.reduceLT, Int.reduceEq, Int.reduceLT, Int.reduceLE, Int.reduceBEq, Int.reduceBNe, Int.reduceToNat, Int.reduceNeg, Int.reduceSub, Int.reduceAdd, h, r0, r2, hx, metaH, hwk, hrow, hb, fid, e0, f0]
      refine ⟨_, by omega, k + 1, nx + 1, .rw (nx) 2 0 (out.length + 1), _, rfl, by omega, rfl, ?_⟩
      rw [hnext]
      refine hB.putG (by decide) (by simp) (id := nx) (by omega) (by omega) (upd_same _ _ _) ?_ (fun j hj h2 hr => ?_)
      · rw [upd_other (by omega), upd_same, List.map_append]; rfl
      · have hr : ¬ j = id := hr
        (repeat rw [upd_other (by omega)])
  · have hfin := hfin (by omega)
    subst hfin
    simp only [push_cast, Nat.reduceBEq, Nat.reduceAdd, Nat.reduceEqDiff, reduceCtorEq, Nat.reduceLeDiff, Nat.reduceSub, Nat.reduceMul, Nat.reduceLT, Int.reduceEq, Int.reduceLT, Int.reduceLE, Int.reduceBEq, Int.reduceBNe, Int.reduceToNat, Int.reduceNeg, Int.reduceSub, Int.reduceAdd, h, r0, r2]
    refine loopK (fun m x => ∃ (k nx : Nat) (uv0 : AV) (H : Hp), x = ⟨[(1, .sl (made.map metaH)), (2, .ptr 0 0), (4, .ptr 1 0), (5, .ptr 2 0), (7, .lit (.int .i64 (k : Int)))], H, nx⟩ ∧ k ≤ too.length ∧ m = too.length - k ∧ BM [.lit (.int .i64 lv), .sl (frm.map metaH), .sl (too.map metaH), .lit (.bool bot)] 86 84 (-1) (-1) (-1) ((([] : List PlD) ++ frm.map fun m => (⟨lv, m.file⟩ : PlD)) ++ (too.take k).map fun m => (⟨lv + 1, m.file⟩ : PlD)) uv0 [] (.lit (.slice none 0 0)) nx H) _ [1, 2, 4, 5, 7] (by exact ⟨0, nx, uv, H, rfl, by omega, rfl, by simpa using hB⟩) ?_
    clear hB r0 r2 n3 hlen hnext
    rintro m _ ⟨k, nx, uv0, H, rfl, hk, rfl, hB⟩
    have n3 := hB.n3
    have r0 := hB.r0
    have r2 := hB.r2
    have hnext : ∀ x, too[k]? = some x → ((([] : List PlD) ++ frm.map fun m => (⟨lv, m.file⟩ : PlD)) ++ (too.take (k + 1)).map fun m => (⟨lv + 1, m.file⟩ : PlD)) = ((([] : List PlD) ++ frm.map fun m => (⟨lv, m.file⟩ : PlD)) ++ (too.take k).map fun m => (⟨lv + 1, m.file⟩ : PlD)) ++ [⟨lv + 1, x.file⟩] := fun x hx => by rw [List.take_add_one, hx, List.map_append, ← List.append_assoc]; rfl
    have hfin : too.length ≤ k → ((([] : List PlD) ++ frm.map fun m => (⟨lv, m.file⟩ : PlD)) ++ (too.take k).map fun m => (⟨lv + 1, m.file⟩ : PlD)) = (([] : List PlD) ++ frm.map fun m => (⟨lv, m.file⟩ : PlD)) ++ too.map fun m => (⟨lv + 1, m.file⟩ : PlD) := fun h => by rw [List.take_of_length_le h]
    have hlen : ((([] : List PlD) ++ frm.map fun m => (⟨lv, m.file⟩ : PlD)) ++ (too.take k).map fun m => (⟨lv + 1, m.file⟩ : PlD)).length ≤ 400000 := by simp only [List.length_append, List.length_map, List.length_nil, List.length_take]; omega
    generalize ((([] : List PlD) ++ frm.map fun m => (⟨lv, m.file⟩ : PlD)) ++ (too.take k).map fun m => (⟨lv + 1, m.file⟩ : PlD)) = out at hB hnext hfin hlen
    by_cases h : k < too.length
    · obtain ⟨x, hx⟩ : ∃ x, too[k]? = some x := ⟨_, List.getElem?_eq_getElem h⟩
      have hnext := hnext x hx
      try simp only [List.nil_append] at hnext
      have hwk := wrap_nat (k := k) (by omega)
      have hb : (out.length + 1) * 16 ≤ 140737488355328 := by omega
      have e0 : (nx == 2) = false := neB (by omega)
      rcases id hB.rg with ⟨rfl, hnil⟩ | ⟨id, rfl, i3, ilt, hrow⟩
      · obtain rfl : out = [] := by simpa using hnil
        simp only [push_cast, Nat.reduceBEq, Nat.reduceAdd, Nat.reduceEqDiff, reduceCtorEq, Nat.reduceLeDiff, Nat.reduceSub, Nat.reduceMul, Nat.reduceLT, Int.reduceEq, Int.reduceLT, Int.reduceLE, Int.reduceBEq, Int.reduceBNe, Int.reduceToNat, Int.reduceNeg, Int.reduceSub, Int.reduceAdd, h, r0, r2, hx, metaH, hwl, hwk, e0]
        refine ⟨_, by omega, k + 1, nx + 1, .rw (nx) 2 0 1, _, rfl, by omega, rfl, ?_⟩
        rw [hnext]
        refine hB.putG (by decide) rfl (id := nx) (by omega) (by omega) (upd_same _ _ _) ?_ (fun j hj h2 hr => ?_)
        · rw [upd_other (by omega), upd_same]; rfl
        · (repeat rw [upd_other (by omega)])
      · have f0 : (nx == id) = false := neB (by omega)
        have fid : (id == 2) = false := neB (by omega)
        rw [List.length_map] at r2
        simp only [push_cast, Nat.reduceBEq, Nat.reduceAdd, Nat.reduceEqDiff, reduceCtorEq, Nat.reduceLeDiff, Nat.reduceSub, Nat.reduceMul, Nat.reduceLT, Int.reduceEq, Int.reduceLT, Int.reduceLE, Int.reduceBEq, Int.reduceBNe, Int.reduceToNat, Int.reduceNeg, Int.reduceSub, Int.reduceAdd, h, r0, r2, hx, metaH, hwl, hwk, hrow, hb, fid, e0, f0]
        refine ⟨_, by omega, k + 1, nx + 1, .rw (nx) 2 0 (out.length + 1), _, rfl, by omega, rfl, ?_⟩
        rw [hnext]
        refine hB.putG (by decide) (by simp) (id := nx) (by omega) (by omega) (upd_same _ _ _) ?_ (fun j hj h2 hr => ?_)
        · rw [upd_other (by omega), upd_same, List.map_append]; rfl
        · have hr : ¬ j = id := hr
          (repeat rw [upd_other (by omega)])
    · have hfin := hfin (by omega)
      subst hfin
      simp only [push_cast, Nat.reduceBEq, Nat.reduceAdd, Nat.reduceEqDiff, reduceCtorEq, Nat.reduceLeDiff, Nat.reduceSub, Nat.reduceMul, Nat.reduceLT, Int.reduceEq, Int.reduceLT, Int.reduceLE, Int.reduceBEq, Int.reduceBNe, Int.reduceToNat, Int.reduceNeg, Int.reduceSub, Int.reduceAdd, h, r0, r2]
      refine loopK (fun m x => ∃ (k nx : Nat) (uv : AV) (H : Hp), x = ⟨[(1, .sl (made.map metaH)), (2, .ptr 0 0), (4, .ptr 1 0), (5, .ptr 2 0), (8, .lit (.int .i64 (k : Int)))], H, nx⟩ ∧ k ≤ made.length ∧ m = made.length - k ∧ BM [.lit (.int .i64 lv), .sl (frm.map metaH), .sl (too.map metaH), .lit (.bool bot)] 86 84 (-1) (-1) (-1) ((([] : List PlD) ++ frm.map fun m => (⟨lv, m.file⟩ : PlD)) ++ too.map fun m => (⟨lv + 1, m.file⟩ : PlD)) uv0 (([] : List AddD) ++ (made.take k).map fun m => (⟨lv + 1, m⟩ : AddD)) uv nx H) _ [1, 2, 4, 5, 8] (by exact ⟨0, nx, (.lit (.slice none 0 0)), H, rfl, by omega, rfl, by simpa using hB⟩) ?_
      clear hB r0 r2 n3 hlen hnext
      rintro m _ ⟨k, nx, uv, H, rfl, hk, rfl, hB⟩
      have n3 := hB.n3
      have r0 := hB.r0
      have r2 := hB.r2
      have hnext : ∀ x, made[k]? = some x → (([] : List AddD) ++ (made.take (k + 1)).map fun m => (⟨lv + 1, m⟩ : AddD)) = (([] : List AddD) ++ (made.take k).map fun m => (⟨lv + 1, m⟩ : AddD)) ++ [⟨lv + 1, x⟩] := fun x hx => by rw [List.take_add_one, hx, List.map_append, ← List.append_assoc]; rfl
      have hfin : made.length ≤ k → (([] : List AddD) ++ (made.take k).map fun m => (⟨lv + 1, m⟩ : AddD)) = ([] : List AddD) ++ made.map fun m => (⟨lv + 1, m⟩ : AddD) := fun h => by rw [List.take_of_length_le h]
      have hlen : (([] : List AddD) ++ (made.take k).map fun m => (⟨lv + 1, m⟩ : AddD)).length ≤ 400000 := by simp only [List.length_append, List.length_map, List.length_nil, List.length_take]; omega
      generalize (([] : List AddD) ++ (made.take k).map fun m => (⟨lv + 1, m⟩ : AddD)) = out at hB hnext hfin hlen
      by_cases h : k < made.length
      · obtain ⟨x, hx⟩ : ∃ x, made[k]? = some x := ⟨_, List.getElem?_eq_getElem h⟩
        have hnext := hnext x hx
        try simp only [List.nil_append] at hnext
        have hwk := wrap_nat (k := k) (by omega)
        have hb : (out.length + 1) * 56 ≤ 140737488355328 := by omega
        have e0 : (nx == 2) = false := neB (by omega)
        rcases id hB.rn with ⟨rfl, hnil⟩ | ⟨id, rfl, i3, ilt, hrow⟩
        · obtain rfl : out = [] := by simpa using hnil
          simp only [push_cast, Nat.reduceBEq, Nat.reduceAdd, Nat.reduceEqDiff, reduceCtorEq, Nat.reduceLeDiff, Nat.reduceSub, Nat.reduceMul, Nat.reduceLT, Int.reduceEq, Int.reduceLT, Int.reduceLE, Int.reduceBEq, Int.reduceBNe, Int.reduceToNat, Int.reduceNeg, Int.reduceSub, Int.reduceAdd, h, r0, r2, hx, metaH, hwl, hwk, e0]
          refine ⟨_, by omega, k + 1, nx + 1, .rw (nx) 5 0 1, _, rfl, by omega, rfl, ?_⟩
          rw [hnext]
          refine hB.putN (by decide) rfl (id := nx) (by omega) (by omega) (upd_same _ _ _) ?_ (fun j hj h2 hr => ?_)
          · rw [upd_other (by omega), upd_same]; rfl
          · (repeat rw [upd_other (by omega)])
        · have f0 : (nx == id) = false := neB (by omega)
          have fid : (id == 2) = false := neB (by omega)
          rw [List.length_map] at r2
          simp only [push_cast, Nat.reduceBEq, Nat.reduceAdd, Nat.reduceEqDiff, reduceCtorEq, Nat.reduceLeDiff, Nat.reduceSub, Nat.reduceMul, Nat.reduceLT, Int.reduceEq, Int.reduceLT, Int.reduceLE, Int.reduceBEq, Int.reduceBNe, Int.reduceToNat, Int.reduceNeg, Int.reduceSub, Int.reduceAdd, h, r0, r2, hx, metaH, hwl, hwk, hrow, hb, fid, e0, f0]
          refine ⟨_, by omega, k + 1, nx + 1, .rw (nx) 5 0 (out.length + 1), _, rfl, by omega, rfl, ?_⟩
          rw [hnext]
          refine hB.putN (by decide) (by simp) (id := nx) (by omega) (by omega) (upd_same _ _ _) ?_ (fun j hj h2 hr => ?_)
          · rw [upd_other (by omega), upd_same, List.map_append]; rfl
          · have hr : ¬ j = id := hr
            (repeat rw [upd_other (by omega)])
      · have hfin := hfin (by omega)
        subst hfin
        have r1 := hB.r1
        unfold zE5' at r1
        obtain ⟨v2, v3, hc1, hd1⟩ := hB.fin [.lit (.int .i64 (-1)), .lit (.int .i64 (-1)), .lit (.int .i64 (-1)), uv0, uv]
        simp only [AV.isOne, Value.oneCell'] at hc1 hd1
        simp only [push_cast, Nat.reduceBEq, Nat.reduceAdd, Nat.reduceEqDiff, reduceCtorEq, Nat.reduceLeDiff, Nat.reduceSub, Nat.reduceMul, Nat.reduceLT, Int.reduceEq, Int.reduceLT, Int.reduceLE, Int.reduceBEq, Int.reduceBNe, Int.reduceToNat, Int.reduceNeg, Int.reduceSub, Int.reduceAdd, AV.view1] at v2 v3
        simp only [push_cast, Nat.reduceBEq, Nat.reduceAdd, Nat.reduceEqDiff, reduceCtorEq, Nat.reduceLeDiff, Nat.reduceSub, Nat.reduceMul, Nat.reduceLT, Int.reduceEq, Int.reduceLT, Int.reduceLE, Int.reduceBEq, Int.reduceBNe, Int.reduceToNat, Int.reduceNeg, Int.reduceSub, Int.reduceAdd, h, r0, r1, r2, hc1, hd1, v2, v3]
        rfl
theorem done_h (j : JobD) (made : List MetaD) (hj : 0 ≤ j.level ∧ j.level ≤ 10) (hf : j.frm.length ≤ 100000) (ht : j.too.length ≤ 100000) (hm : made.length ≤ 100000) : Hv.ACalls Try.prog 27 [jobH j, .sl (made.map metaH)] (edH (doneE j made)) := by
  refine acallsC_of (rs := [.cell 4 67]) ⟨[0, 1, 2, 4, 5, 7, 9, 11, 14, 15, 16, 17, 32, 33, 34, 35, 50, 51, 52, 53], [], [], [], []⟩ TOk mixed Try.func27 rfl rfl (by kernel_rfl) (by kernel_rfl) rfl (nid2 (noId_job j) (noId_metas made)) (noId_ed _) ?_
  obtain ⟨lv, frm, too, bot⟩ := j
  simp only at hj hf ht
  have hwl : IntKind.i64.wrap (lv + 1) = lv + 1 := IntWalk.i64_in _ (by omega)
  simp only [push_cast, Nat.reduceBEq, Nat.reduceAdd, Nat.reduceEqDiff, reduceCtorEq, Nat.reduceLeDiff, Nat.reduceSub, Nat.reduceMul, Nat.reduceLT, Int.reduceEq, Int.reduceLT, Int.reduceLE, Int.reduceBEq, Int.reduceBNe, Int.reduceToNat, Int.reduceNeg, Int.reduceSub, Int.reduceAdd, jobH]
  refine loopK (fun m x => ∃ (k nx : Nat) (uv : AV) (H : Hp), x = ⟨[(1, .sl (made.map metaH)), (2, .ptr 0 0), (4, .ptr 1 0), (5, .ptr 2 0), (14, .sl (frm.map metaH)), (15, .lit (.int .i64 (frm.length : Int))), (16, .lit (.int .i64 (k : Int)))], H, nx⟩ ∧ k ≤ frm.length ∧ m = frm.length - k ∧ BM [.lit (.int .i64 lv), .sl (frm.map metaH), .sl (too.map metaH), .lit (.bool bot)] 120 93 (-1) (-1) (-1) (([] : List PlD) ++ (frm.take k).map fun m => (⟨lv, m.file⟩ : PlD)) uv [] (.lit (.slice none 0 0)) nx H) _ [1, 2, 4, 5, 14, 15, 16] (by exact ⟨0, 3, _, _, rfl, by omega, rfl, ⟨by omega, rfl, rfl, rfl, .inl ⟨rfl, rfl⟩, .inl ⟨rfl, rfl⟩⟩⟩) ?_
  rintro m _ ⟨k, nx, uv, H, rfl, hk, rfl, hB⟩
  have n3 := hB.n3
  have r0 := hB.r0
  have r2 := hB.r2
  have hnext : ∀ x, frm[k]? = some x → (([] : List PlD) ++ (frm.take (k + 1)).map fun m => (⟨lv, m.file⟩ : PlD)) = (([] : List PlD) ++ (frm.take k).map fun m => (⟨lv, m.file⟩ : PlD)) ++ [⟨lv, x.file⟩] := fun x hx => by rw [List.take_add_one, hx, List.map_append, ← List.append_assoc]; rfl
  have hfin : frm.length ≤ k → (([] : List PlD) ++ (frm.take k).map fun m => (⟨lv, m.file⟩ : PlD)) = ([] : List PlD) ++ frm.map fun m => (⟨lv, m.file⟩ : PlD) := fun h => by rw [List.take_of_length_le h]
  have hlen : (([] : List PlD) ++ (frm.take k).map fun m => (⟨lv, m.file⟩ : PlD)).length ≤ 400000 := by simp only [List.length_append, List.length_map, List.length_nil, List.length_take]; omega
  generalize (([] : List PlD) ++ (frm.take k).map fun m => (⟨lv, m.file⟩ : PlD)) = out at hB hnext hfin hlen
  by_cases h : k < frm.length
  · obtain ⟨x, hx⟩ : ∃ x, frm[k]? = some x := ⟨_, List.getElem?_eq_getElem h⟩
    have hnext := hnext x hx
    try simp only [List.nil_append] at hnext
    have hwk := wrap_nat (k := k) (by omega)
    have hb : (out.length + 1) * 16 ≤ 140737488355328 := by omega
    have e0 : (nx == 0) = false := neB (by omega)
    have e1 : (nx + 1 == 0) = false := neB (by omega)
    have e2 : (nx + 1 + 1 == 0) = false := neB (by omega)
    have e3 : (nx == 2) = false := neB (by omega)
    have e4 : (nx + 1 == 2) = false := neB (by omega)
    have e5 : (nx + 1 + 1 == 2) = false := neB (by omega)
    have e6 : (nx == nx + 1) = false := neB (by omega)
    have e7 : (nx + 1 == nx) = false := neB (by omega)
    have e8 : (nx + 1 + 1 == nx) = false := neB (by omega)
    have e9 : (nx + 1 + 1 == nx + 1) = false := neB (by omega)
    have e10 : (nx == nx + 1 + 1) = false := neB (by omega)
    have e11 : (nx + 1 == nx + 1 + 1) = false := neB (by omega)
    rcases id hB.rg with ⟨rfl, hnil⟩ | ⟨id, rfl, i3, ilt, hrow⟩
    · obtain rfl : out = [] := by simpa using hnil
      simp only [push_cast, Nat.reduceBEq, Nat.reduceAdd, Nat.reduceEqDiff, reduceCtorEq, Nat.reduceLeDiff, Nat.reduceSub, Nat.reduceMul, Nat.reduceLT, Int.reduceEq, Int.reduceLT, Int.reduceLE, Int.reduceBEq, Int.reduceBNe, Int.reduceToNat, Int.reduceNeg, Int.reduceSub, Int.reduceAdd, h, r0, r2, hx, metaH, hwk, e0, e1, e2, e3, e4, e5, e6, e7, e8, e9, e10, e11]
      refine ⟨_, by omega, k + 1, nx + 1 + 1 + 1, .rw (nx + 1 + 1) 2 0 1, _, rfl, by omega, rfl, ?_⟩
      rw [hnext]
      refine hB.putG (by decide) rfl (id := nx + 1 + 1) (by omega) (by omega) (upd_same _ _ _) ?_ (fun j hj h2 hr => ?_)
      · rw [upd_other (by omega), upd_same]; rfl
      · (repeat rw [upd_other (by omega)])
    · have f0 : (nx == id) = false := neB (by omega)
      have f1 : (nx + 1 == id) = false := neB (by omega)
      have f2 : (nx + 1 + 1 == id) = false := neB (by omega)
      have fid : (id == 2) = false := neB (by omega)
      rw [List.length_map] at r2
      simp only [push_cast, Nat.reduceBEq, Nat.reduceAdd, Nat.reduceEqDiff, reduceCtorEq, Nat.reduceLeDiff, Nat.reduceSub, Nat.reduceMul, Nat.reduceLT, Int.reduceEq, Int.reduceLT, Int.reduceLE, Int.reduceBEq, Int.reduceBNe, Int.reduceToNat, Int.reduceNeg, Int.reduceSub, Int.reduceAdd, h, r0, r2, hx, metaH, hwk, hrow, hb, fid, e0, e1, e2, e3, e4, e5, e6, e7, e8, e9, e10, e11, f0, f1, f2]
      refine ⟨_, by omega, k + 1, nx + 1 + 1 + 1, .rw (nx + 1 + 1) 2 0 (out.length + 1), _, rfl, by omega, rfl, ?_⟩
      rw [hnext]
      refine hB.putG (by decide) (by simp) (id := nx + 1 + 1) (by omega) (by omega) (upd_same _ _ _) ?_ (fun j hj h2 hr => ?_)
      · rw [upd_other (by omega), upd_same, List.map_append]; rfl
      · have hr : ¬ j = id := hr
        (repeat rw [upd_other (by omega)])
  · have hfin := hfin (by omega)
    subst hfin
    simp only [push_cast, Nat.reduceBEq, Nat.reduceAdd, Nat.reduceEqDiff, reduceCtorEq, Nat.reduceLeDiff, Nat.reduceSub, Nat.reduceMul, Nat.reduceLT, Int.reduceEq, Int.reduceLT, Int.reduceLE, Int.reduceBEq, Int.reduceBNe, Int.reduceToNat, Int.reduceNeg, Int.reduceSub, Int.reduceAdd, h, r0, r2]
    refine loopK (fun m x => ∃ (k nx : Nat) (uv0 : AV) (H : Hp), x = ⟨[(1, .sl (made.map metaH)), (2, .ptr 0 0), (4, .ptr 1 0), (5, .ptr 2 0), (32, .sl (too.map metaH)), (33, .lit (.int .i64 (too.length : Int))), (34, .lit (.int .i64 (k : Int)))], H, nx⟩ ∧ k ≤ too.length ∧ m = too.length - k ∧ BM [.lit (.int .i64 lv), .sl (frm.map metaH), .sl (too.map metaH), .lit (.bool bot)] 120 93 (-1) (-1) (-1) ((([] : List PlD) ++ frm.map fun m => (⟨lv, m.file⟩ : PlD)) ++ (too.take k).map fun m => (⟨lv + 1, m.file⟩ : PlD)) uv0 [] (.lit (.slice none 0 0)) nx H) _ [1, 2, 4, 5, 32, 33, 34] (by exact ⟨0, nx, uv, H, rfl, by omega, rfl, by simpa using hB⟩) ?_
    clear hB r0 r2 n3 hlen hnext
    rintro m _ ⟨k, nx, uv0, H, rfl, hk, rfl, hB⟩
    have n3 := hB.n3
    have r0 := hB.r0
    have r2 := hB.r2
    have hnext : ∀ x, too[k]? = some x → ((([] : List PlD) ++ frm.map fun m => (⟨lv, m.file⟩ : PlD)) ++ (too.take (k + 1)).map fun m => (⟨lv + 1, m.file⟩ : PlD)) = ((([] : List PlD) ++ frm.map fun m => (⟨lv, m.file⟩ : PlD)) ++ (too.take k).map fun m => (⟨lv + 1, m.file⟩ : PlD)) ++ [⟨lv + 1, x.file⟩] := fun x hx => by rw [List.take_add_one, hx, List.map_append, ← List.append_assoc]; rfl
    have hfin : too.length ≤ k → ((([] : List PlD) ++ frm.map fun m => (⟨lv, m.file⟩ : PlD)) ++ (too.take k).map fun m => (⟨lv + 1, m.file⟩ : PlD)) = (([] : List PlD) ++ frm.map fun m => (⟨lv, m.file⟩ : PlD)) ++ too.map fun m => (⟨lv + 1, m.file⟩ : PlD) := fun h => by rw [List.take_of_length_le h]
    have hlen : ((([] : List PlD) ++ frm.map fun m => (⟨lv, m.file⟩ : PlD)) ++ (too.take k).map fun m => (⟨lv + 1, m.file⟩ : PlD)).length ≤ 400000 := by simp only [List.length_append, List.length_map, List.length_nil, List.length_take]; omega
    generalize ((([] : List PlD) ++ frm.map fun m => (⟨lv, m.file⟩ : PlD)) ++ (too.take k).map fun m => (⟨lv + 1, m.file⟩ : PlD)) = out at hB hnext hfin hlen
    by_cases h : k < too.length
    · obtain ⟨x, hx⟩ : ∃ x, too[k]? = some x := ⟨_, List.getElem?_eq_getElem h⟩
      have hnext := hnext x hx
      try simp only [List.nil_append] at hnext
      have hwk := wrap_nat (k := k) (by omega)
      have hb : (out.length + 1) * 16 ≤ 140737488355328 := by omega
      have e0 : (nx == 0) = false := neB (by omega)
      have e1 : (nx + 1 == 0) = false := neB (by omega)
      have e2 : (nx + 1 + 1 == 0) = false := neB (by omega)
      have e3 : (nx == 2) = false := neB (by omega)
      have e4 : (nx + 1 == 2) = false := neB (by omega)
      have e5 : (nx + 1 + 1 == 2) = false := neB (by omega)
      have e6 : (nx == nx + 1) = false := neB (by omega)
      have e7 : (nx + 1 == nx) = false := neB (by omega)
      have e8 : (nx + 1 + 1 == nx) = false := neB (by omega)
      have e9 : (nx + 1 + 1 == nx + 1) = false := neB (by omega)
      have e10 : (nx == nx + 1 + 1) = false := neB (by omega)
      have e11 : (nx + 1 == nx + 1 + 1) = false := neB (by omega)
      rcases id hB.rg with ⟨rfl, hnil⟩ | ⟨id, rfl, i3, ilt, hrow⟩
      · obtain rfl : out = [] := by simpa using hnil
        simp only [push_cast, Nat.reduceBEq, Nat.reduceAdd, Nat.reduceEqDiff, reduceCtorEq, Nat.reduceLeDiff, Nat.reduceSub, Nat.reduceMul, Nat.reduceLT, Int.reduceEq, Int.reduceLT, Int.reduceLE, Int.reduceBEq, Int.reduceBNe, Int.reduceToNat, Int.reduceNeg, Int.reduceSub, Int.reduceAdd, h, r0, r2, hx, metaH, hwl, hwk, e0, e1, e2, e3, e4, e5, e6, e7, e8, e9, e10, e11]
        refine ⟨_, by omega, k + 1, nx + 1 + 1 + 1, .rw (nx + 1 + 1) 2 0 1, _, rfl, by omega, rfl, ?_⟩
        rw [hnext]
        refine hB.putG (by decide) rfl (id := nx + 1 + 1) (by omega) (by omega) (upd_same _ _ _) ?_ (fun j hj h2 hr => ?_)
        · rw [upd_other (by omega), upd_same]; rfl
        · (repeat rw [upd_other (by omega)])
      · have f0 : (nx == id) = false := neB (by omega)
        have f1 : (nx + 1 == id) = false := neB (by omega)
        have f2 : (nx + 1 + 1 == id) = false := neB (by omega)
        have fid : (id == 2) = false := neB (by omega)
        rw [List.length_map] at r2
        simp only [push_cast, Nat.reduceBEq, Nat.reduceAdd, Nat.reduceEqDiff, reduceCtorEq, Nat.reduceLeDiff, Nat.reduceSub, Nat.reduceMul, Nat.reduceLT, Int.reduceEq, Int.reduceLT, Int.reduceLE, Int.reduceBEq, Int.reduceBNe, Int.reduceToNat, Int.reduceNeg, Int.reduceSub, Int.reduceAdd, h, r0, r2, hx, metaH, hwl, hwk, hrow, hb, fid, e0, e1, e2, e3, e4, e5, e6, e7, e8, e9, e10, e11, f0, f1, f2]
        refine ⟨_, by omega, k + 1, nx + 1 + 1 + 1, .rw (nx + 1 + 1) 2 0 (out.length + 1), _, rfl, by omega, rfl, ?_⟩
        rw [hnext]
        refine hB.putG (by decide) (by simp) (id := nx + 1 + 1) (by omega) (by omega) (upd_same _ _ _) ?_ (fun j hj h2 hr => ?_)
        · rw [upd_other (by omega), upd_same, List.map_append]; rfl
        · have hr : ¬ j = id := hr
          (repeat rw [upd_other (by omega)])
    · have hfin := hfin (by omega)
      subst hfin
      simp only [push_cast, Nat.reduceBEq, Nat.reduceAdd, Nat.reduceEqDiff, reduceCtorEq, Nat.reduceLeDiff, Nat.reduceSub, Nat.reduceMul, Nat.reduceLT, Int.reduceEq, Int.reduceLT, Int.reduceLE, Int.reduceBEq, Int.reduceBNe, Int.reduceToNat, Int.reduceNeg, Int.reduceSub, Int.reduceAdd, h, r0, r2]
      refine loopK (fun m x => ∃ (k nx : Nat) (uv : AV) (H : Hp), x = ⟨[(1, .sl (made.map metaH)), (2, .ptr 0 0), (4, .ptr 1 0), (5, .ptr 2 0), (50, .sl (made.map metaH)), (51, .lit (.int .i64 (made.length : Int))), (52, .lit (.int .i64 (k : Int)))], H, nx⟩ ∧ k ≤ made.length ∧ m = made.length - k ∧ BM [.lit (.int .i64 lv), .sl (frm.map metaH), .sl (too.map metaH), .lit (.bool bot)] 120 93 (-1) (-1) (-1) ((([] : List PlD) ++ frm.map fun m => (⟨lv, m.file⟩ : PlD)) ++ too.map fun m => (⟨lv + 1, m.file⟩ : PlD)) uv0 (([] : List AddD) ++ (made.take k).map fun m => (⟨lv + 1, m⟩ : AddD)) uv nx H) _ [1, 2, 4, 5, 50, 51, 52] (by exact ⟨0, nx, (.lit (.slice none 0 0)), H, rfl, by omega, rfl, by simpa using hB⟩) ?_
      clear hB r0 r2 n3 hlen hnext
      rintro m _ ⟨k, nx, uv, H, rfl, hk, rfl, hB⟩
      have n3 := hB.n3
      have r0 := hB.r0
      have r2 := hB.r2
      have hnext : ∀ x, made[k]? = some x → (([] : List AddD) ++ (made.take (k + 1)).map fun m => (⟨lv + 1, m⟩ : AddD)) = (([] : List AddD) ++ (made.take k).map fun m => (⟨lv + 1, m⟩ : AddD)) ++ [⟨lv + 1, x⟩] := fun x hx => by rw [List.take_add_one, hx, List.map_append, ← List.append_assoc]; rfl
      have hfin : made.length ≤ k → (([] : List AddD) ++ (made.take k).map fun m => (⟨lv + 1, m⟩ : AddD)) = ([] : List AddD) ++ made.map fun m => (⟨lv + 1, m⟩ : AddD) := fun h => by rw [List.take_of_length_le h]
      have hlen : (([] : List AddD) ++ (made.take k).map fun m => (⟨lv + 1, m⟩ : AddD)).length ≤ 400000 := by simp only [List.length_append, List.length_map, List.length_nil, List.length_take]; omega
      generalize (([] : List AddD) ++ (made.take k).map fun m => (⟨lv + 1, m⟩ : AddD)) = out at hB hnext hfin hlen
      by_cases h : k < made.length
      · obtain ⟨x, hx⟩ : ∃ x, made[k]? = some x := ⟨_, List.getElem?_eq_getElem h⟩
        have hnext := hnext x hx
        try simp only [List.nil_append] at hnext
        have hwk := wrap_nat (k := k) (by omega)
        have hb : (out.length + 1) * 56 ≤ 140737488355328 := by omega
        have e0 : (nx == 0) = false := neB (by omega)
        have e1 : (nx + 1 == 0) = false := neB (by omega)
        have e2 : (nx + 1 + 1 == 0) = false := neB (by omega)
        have e3 : (nx == 2) = false := neB (by omega)
        have e4 : (nx + 1 == 2) = false := neB (by omega)
        have e5 : (nx + 1 + 1 == 2) = false := neB (by omega)
        have e6 : (nx == nx + 1) = false := neB (by omega)
        have e7 : (nx + 1 == nx) = false := neB (by omega)
        have e8 : (nx + 1 + 1 == nx) = false := neB (by omega)
        have e9 : (nx + 1 + 1 == nx + 1) = false := neB (by omega)
        have e10 : (nx == nx + 1 + 1) = false := neB (by omega)
        have e11 : (nx + 1 == nx + 1 + 1) = false := neB (by omega)
        rcases id hB.rn with ⟨rfl, hnil⟩ | ⟨id, rfl, i3, ilt, hrow⟩
        · obtain rfl : out = [] := by simpa using hnil
          simp only [push_cast, Nat.reduceBEq, Nat.reduceAdd, Nat.reduceEqDiff, reduceCtorEq, Nat.reduceLeDiff, Nat.reduceSub, Nat.reduceMul, Nat.reduceLT, Int.reduceEq, Int.reduceLT, Int.reduceLE, Int.reduceBEq, Int.reduceBNe, Int.reduceToNat, Int.reduceNeg, Int.reduceSub, Int.reduceAdd, h, r0, r2, hx, metaH, hwl, hwk, e0, e1, e2, e3, e4, e5, e6, e7, e8, e9, e10, e11]
          refine ⟨_, by omega, k + 1, nx + 1 + 1 + 1, .rw (nx + 1 + 1) 5 0 1, _, rfl, by omega, rfl, ?_⟩
          rw [hnext]
          refine hB.putN (by decide) rfl (id := nx + 1 + 1) (by omega) (by omega) (upd_same _ _ _) ?_ (fun j hj h2 hr => ?_)
          · rw [upd_other (by omega), upd_same]; rfl
          · (repeat rw [upd_other (by omega)])
        · have f0 : (nx == id) = false := neB (by omega)
          have f1 : (nx + 1 == id) = false := neB (by omega)
          have f2 : (nx + 1 + 1 == id) = false := neB (by omega)
          have fid : (id == 2) = false := neB (by omega)
          rw [List.length_map] at r2
          simp only [push_cast, Nat.reduceBEq, Nat.reduceAdd, Nat.reduceEqDiff, reduceCtorEq, Nat.reduceLeDiff, Nat.reduceSub, Nat.reduceMul, Nat.reduceLT, Int.reduceEq, Int.reduceLT, Int.reduceLE, Int.reduceBEq, Int.reduceBNe, Int.reduceToNat, Int.reduceNeg, Int.reduceSub, Int.reduceAdd, h, r0, r2, hx, metaH, hwl, hwk, hrow, hb, fid, e0, e1, e2, e3, e4, e5, e6, e7, e8, e9, e10, e11, f0, f1, f2]
          refine ⟨_, by omega, k + 1, nx + 1 + 1 + 1, .rw (nx + 1 + 1) 5 0 (out.length + 1), _, rfl, by omega, rfl, ?_⟩
          rw [hnext]
          refine hB.putN (by decide) (by simp) (id := nx + 1 + 1) (by omega) (by omega) (upd_same _ _ _) ?_ (fun j hj h2 hr => ?_)
          · rw [upd_other (by omega), upd_same, List.map_append]; rfl
          · have hr : ¬ j = id := hr
            (repeat rw [upd_other (by omega)])
      · have hfin := hfin (by omega)
        subst hfin
        have r1 := hB.r1
        unfold zE5' at r1
        obtain ⟨v2, v3, hc1, hd1⟩ := hB.fin [.lit (.int .i64 (-1)), .lit (.int .i64 (-1)), .lit (.int .i64 (-1)), uv0, uv]
        simp only [AV.isOne, Value.oneCell'] at hc1 hd1
        simp only [push_cast, Nat.reduceBEq, Nat.reduceAdd, Nat.reduceEqDiff, reduceCtorEq, Nat.reduceLeDiff, Nat.reduceSub, Nat.reduceMul, Nat.reduceLT, Int.reduceEq, Int.reduceLT, Int.reduceLE, Int.reduceBEq, Int.reduceBNe, Int.reduceToNat, Int.reduceNeg, Int.reduceSub, Int.reduceAdd, AV.view1] at v2 v3
        simp only [push_cast, Nat.reduceBEq, Nat.reduceAdd, Nat.reduceEqDiff, reduceCtorEq, Nat.reduceLeDiff, Nat.reduceSub, Nat.reduceMul, Nat.reduceLT, Int.reduceEq, Int.reduceLT, Int.reduceLE, Int.reduceBEq, Int.reduceBNe, Int.reduceToNat, Int.reduceNeg, Int.reduceSub, Int.reduceAdd, h, r0, r1, r2, hc1, hd1, v2, v3]
        rfl
end Go.Proofs.Ytheanmfdfoefoaa
set_option linter.unusedVariables false
set_option linter.unusedSimpArgs false
namespace Go.Proofs.Ytheanmfdfoefoaa
open Go Go.RowKit Hv
set_option maxRecDepth 20000
set_option maxHeartbeats 8000000
theorem change_h (e : EdD) (hf : e.gone.length ≤ 100000) (hm : e.new.length ≤ 100000) : Hv.ACalls Try.prog 26 [edH e] (edH e) := by
  refine acallsC_of (rs := [.cell 2 62]) ⟨[0, 1, 2, 3, 4, 5, 6, 18, 43], [], [], [(5, [(0, [], []), (1, [], []), (2, [], []), (3, [], []), (4, [], []), (5, [], []), (6, [], []), (7, [], []), (8, [], []), (9, [], []), (10, [], []), (11, [], []), (12, [], []), (13, [], []), (14, [], []), (15, [], []), (16, [], [1, 15, 0, 14, 7, 13, 6, 12, 5, 11, 3, 4, 9, 10, 2, 8]), (17, [], []), (18, [], [17, 16, 0, 1, 2, 3, 4, 5, 6, 7, 8, 9, 10, 11, 12, 13, 14, 15])]), (10, [(0, [], []), (1, [], []), (2, [], []), (3, [], []), (4, [], []), (5, [], []), (6, [], []), (7, [], []), (8, [], []), (9, [], []), (10, [], []), (11, [], []), (12, [], []), (13, [], []), (14, [], []), (15, [], []), (16, [], []), (17, [], []), (18, [], []), (19, [], [1, 18, 0, 17, 7, 16, 6, 9, 11, 13, 15, 5, 8, 10, 12, 14, 3, 4, 2]), (20, [], []), (21, [], [20, 19, 0, 1, 2, 3, 4, 5, 6, 7, 8, 9, 10, 11, 12, 13, 14, 15, 16, 17, 18])])], []⟩ TOk mixed Try.func26 rfl rfl (by kernel_rfl) (by kernel_rfl) rfl (nid1 (noId_ed e)) (noId_ed _) ?_
  simp only [push_cast, Nat.reduceBEq, Nat.reduceAdd, Nat.reduceEqDiff, reduceCtorEq, Nat.reduceLeDiff, Nat.reduceSub, Nat.reduceMul, Nat.reduceLT, Int.reduceEq, Int.reduceLT, Int.reduceLE, Int.reduceBEq, Int.reduceBNe, Int.reduceToNat, Int.reduceNeg, Int.reduceSub, Int.reduceAdd, edH]
  refine loopK (fun m x => ∃ (k nx : Nat) (uv0 : AV) (H : Hp), x = ⟨[(1, .ptr 0 0), (2, .ptr 1 0), (3, .ptr 2 0), (4, .lit (.int .i64 (k : Int)))], H, nx⟩ ∧ k ≤ e.gone.length ∧ m = e.gone.length - k ∧ BM (edCells e) 86 84 e.log e.next e.seq (([] : List PlD) ++ (e.gone.take k).map fun m => (m : PlD)) uv0 [] (.lit (.slice none 0 0)) nx H) _ [1, 2, 3, 4] (by exact ⟨0, 3, _, _, rfl, by omega, rfl, ⟨by omega, rfl, rfl, rfl, .inl ⟨rfl, rfl⟩, .inl ⟨rfl, rfl⟩⟩⟩) ?_
  rintro m _ ⟨k, nx, uv0, H, rfl, hk, rfl, hB⟩
  have n3 := hB.n3
  have r0 := hB.r0
  have r2 := hB.r2
  unfold edCells at r0
  have hnext : ∀ x, e.gone[k]? = some x → (([] : List PlD) ++ (e.gone.take (k + 1)).map fun m => (m : PlD)) = (([] : List PlD) ++ (e.gone.take k).map fun m => (m : PlD)) ++ [x] := fun x hx => by rw [List.take_add_one, hx, List.map_append, ← List.append_assoc]; rfl
  have hfin : e.gone.length ≤ k → (([] : List PlD) ++ (e.gone.take k).map fun m => (m : PlD)) = ([] : List PlD) ++ e.gone.map fun m => (m : PlD) := fun h => by rw [List.take_of_length_le h]
  have hlen : (([] : List PlD) ++ (e.gone.take k).map fun m => (m : PlD)).length ≤ 400000 := by simp only [List.length_append, List.length_map, List.length_nil, List.length_take]; omega
  generalize (([] : List PlD) ++ (e.gone.take k).map fun m => (m : PlD)) = out at hB hnext hfin hlen
  by_cases h : k < e.gone.length
  · obtain ⟨x, hx⟩ : ∃ x, e.gone[k]? = some x := ⟨_, List.getElem?_eq_getElem h⟩
    have hnext := hnext x hx
    try simp only [List.nil_append] at hnext
    have hwk := wrap_nat (k := k) (by omega)
    have hb : (out.length + 1) * 16 ≤ 140737488355328 := by omega
    have e0 : (nx == 2) = false := neB (by omega)
    rcases id hB.rg with ⟨rfl, hnil⟩ | ⟨id, rfl, i3, ilt, hrow⟩
    · obtain rfl : out = [] := by simpa using hnil
      simp only [push_cast, Nat.reduceBEq, Nat.reduceAdd, Nat.reduceEqDiff, reduceCtorEq, Nat.reduceLeDiff, Nat.reduceSub, Nat.reduceMul, Nat.reduceLT, Int.reduceEq, Int.reduceLT, Int.reduceLE, Int.reduceBEq, Int.reduceBNe, Int.reduceToNat, Int.reduceNeg, Int.reduceSub, Int.reduceAdd, h, r0, r2, hx, plH, hwk, e0]
      refine ⟨_, by omega, k + 1, nx + 1, .rw (nx) 2 0 1, _, rfl, by omega, rfl, ?_⟩
      rw [hnext]
      refine hB.putG (by decide) rfl (id := nx) (by omega) (by omega) (upd_same _ _ _) ?_ (fun j hj h2 hr => ?_)
      · rw [upd_other (by omega), upd_same]; rfl
      · (repeat rw [upd_other (by omega)])
    · have f0 : (nx == id) = false := neB (by omega)
      have fid : (id == 2) = false := neB (by omega)
      rw [List.length_map] at r2
      simp only [push_cast, Nat.reduceBEq, Nat.reduceAdd, Nat.reduceEqDiff, reduceCtorEq, Nat.reduceLeDiff, Nat.reduceSub, Nat.reduceMul, Nat.reduceLT, Int.reduceEq, Int.reduceLT, Int.reduceLE, Int.reduceBEq, Int.reduceBNe, Int.reduceToNat, Int.reduceNeg, Int.reduceSub, Int.reduceAdd, h, r0, r2, hx, plH, hwk, hrow, hb, fid, e0, f0]
      refine ⟨_, by omega, k + 1, nx + 1, .rw (nx) 2 0 (out.length + 1), _, rfl, by omega, rfl, ?_⟩
      rw [hnext]
      refine hB.putG (by decide) (by simp) (id := nx) (by omega) (by omega) (upd_same _ _ _) ?_ (fun j hj h2 hr => ?_)
      · rw [upd_other (by omega), upd_same, List.map_append]; rfl
      · have hr : ¬ j = id := hr
        (repeat rw [upd_other (by omega)])
  · have hfin := hfin (by omega)
    subst hfin
    simp only [push_cast, Nat.reduceBEq, Nat.reduceAdd, Nat.reduceEqDiff, reduceCtorEq, Nat.reduceLeDiff, Nat.reduceSub, Nat.reduceMul, Nat.reduceLT, Int.reduceEq, Int.reduceLT, Int.reduceLE, Int.reduceBEq, Int.reduceBNe, Int.reduceToNat, Int.reduceNeg, Int.reduceSub, Int.reduceAdd, h, r0, r2]
    refine loopK (fun m x => ∃ (k nx : Nat) (uv : AV) (H : Hp), x = ⟨[(1, .ptr 0 0), (2, .ptr 1 0), (3, .ptr 2 0), (5, .lit (.int .i64 (k : Int)))], H, nx⟩ ∧ k ≤ e.new.length ∧ m = e.new.length - k ∧ BM (edCells e) 86 84 e.log e.next e.seq (([] : List PlD) ++ e.gone.map fun m => (m : PlD)) uv0 (([] : List AddD) ++ (e.new.take k).map fun m => (m : AddD)) uv nx H) _ [1, 2, 3, 5] (by exact ⟨0, nx, (.lit (.slice none 0 0)), H, rfl, by omega, rfl, by simpa using hB⟩) ?_
    clear hB r0 r2 n3 hlen hnext
    rintro m _ ⟨k, nx, uv, H, rfl, hk, rfl, hB⟩
    have n3 := hB.n3
    have r0 := hB.r0
    have r2 := hB.r2
    unfold edCells at r0
    have hnext : ∀ x, e.new[k]? = some x → (([] : List AddD) ++ (e.new.take (k + 1)).map fun m => (m : AddD)) = (([] : List AddD) ++ (e.new.take k).map fun m => (m : AddD)) ++ [x] := fun x hx => by rw [List.take_add_one, hx, List.map_append, ← List.append_assoc]; rfl
    have hfin : e.new.length ≤ k → (([] : List AddD) ++ (e.new.take k).map fun m => (m : AddD)) = ([] : List AddD) ++ e.new.map fun m => (m : AddD) := fun h => by rw [List.take_of_length_le h]
    have hlen : (([] : List AddD) ++ (e.new.take k).map fun m => (m : AddD)).length ≤ 400000 := by simp only [List.length_append, List.length_map, List.length_nil, List.length_take]; omega
    generalize (([] : List AddD) ++ (e.new.take k).map fun m => (m : AddD)) = out at hB hnext hfin hlen
    by_cases h : k < e.new.length
    · obtain ⟨x, hx⟩ : ∃ x, e.new[k]? = some x := ⟨_, List.getElem?_eq_getElem h⟩
      have hnext := hnext x hx
      try simp only [List.nil_append] at hnext
      have hwk := wrap_nat (k := k) (by omega)
      have hb : (out.length + 1) * 56 ≤ 140737488355328 := by omega
      have e0 : (nx == 0) = false := neB (by omega)
      have e1 : (nx + 1 == 0) = false := neB (by omega)
      have e2 : (nx == 2) = false := neB (by omega)
      have e3 : (nx + 1 == 2) = false := neB (by omega)
      have e4 : (nx == nx + 1) = false := neB (by omega)
      have e5 : (nx + 1 == nx) = false := neB (by omega)
      rcases id hB.rn with ⟨rfl, hnil⟩ | ⟨id, rfl, i3, ilt, hrow⟩
      · obtain rfl : out = [] := by simpa using hnil
        simp only [push_cast, Nat.reduceBEq, Nat.reduceAdd, Nat.reduceEqDiff, reduceCtorEq, Nat.reduceLeDiff, Nat.reduceSub, Nat.reduceMul, Nat.reduceLT, Int.reduceEq, Int.reduceLT, Int.reduceLE, Int.reduceBEq, Int.reduceBNe, Int.reduceToNat, Int.reduceNeg, Int.reduceSub, Int.reduceAdd, h, r0, r2, hx, addH, hwk, e0, e1, e2, e3, e4, e5]
        refine ⟨_, by omega, k + 1, nx + 1 + 1, .rw (nx + 1) 5 0 1, _, rfl, by omega, rfl, ?_⟩
        rw [hnext]
        refine hB.putN (by decide) rfl (id := nx + 1) (by omega) (by omega) (upd_same _ _ _) ?_ (fun j hj h2 hr => ?_)
        · rw [upd_other (by omega), upd_same]; rfl
        · (repeat rw [upd_other (by omega)])
      · have f0 : (nx == id) = false := neB (by omega)
        have f1 : (nx + 1 == id) = false := neB (by omega)
        have fid : (id == 2) = false := neB (by omega)
        rw [List.length_map] at r2
        simp only [push_cast, Nat.reduceBEq, Nat.reduceAdd, Nat.reduceEqDiff, reduceCtorEq, Nat.reduceLeDiff, Nat.reduceSub, Nat.reduceMul, Nat.reduceLT, Int.reduceEq, Int.reduceLT, Int.reduceLE, Int.reduceBEq, Int.reduceBNe, Int.reduceToNat, Int.reduceNeg, Int.reduceSub, Int.reduceAdd, h, r0, r2, hx, addH, hwk, hrow, hb, fid, e0, e1, e2, e3, e4, e5, f0, f1]
        refine ⟨_, by omega, k + 1, nx + 1 + 1, .rw (nx + 1) 5 0 (out.length + 1), _, rfl, by omega, rfl, ?_⟩
        rw [hnext]
        refine hB.putN (by decide) (by simp) (id := nx + 1) (by omega) (by omega) (upd_same _ _ _) ?_ (fun j hj h2 hr => ?_)
        · rw [upd_other (by omega), upd_same, List.map_append]; rfl
        · have hr : ¬ j = id := hr
          (repeat rw [upd_other (by omega)])
    · have hfin := hfin (by omega)
      subst hfin
      have r1 := hB.r1
      unfold zE5' at r1
      obtain ⟨v2, v3, hc1, hd1⟩ := hB.fin [.lit (.int .i64 e.log), .lit (.int .i64 e.next), .lit (.int .i64 e.seq), uv0, uv]
      simp only [AV.isOne, Value.oneCell'] at hc1 hd1
      simp only [push_cast, Nat.reduceBEq, Nat.reduceAdd, Nat.reduceEqDiff, reduceCtorEq, Nat.reduceLeDiff, Nat.reduceSub, Nat.reduceMul, Nat.reduceLT, Int.reduceEq, Int.reduceLT, Int.reduceLE, Int.reduceBEq, Int.reduceBNe, Int.reduceToNat, Int.reduceNeg, Int.reduceSub, Int.reduceAdd, AV.view1, List.map_id'] at v2 v3
      simp only [push_cast, Nat.reduceBEq, Nat.reduceAdd, Nat.reduceEqDiff, reduceCtorEq, Nat.reduceLeDiff, Nat.reduceSub, Nat.reduceMul, Nat.reduceLT, Int.reduceEq, Int.reduceLT, Int.reduceLE, Int.reduceBEq, Int.reduceBNe, Int.reduceToNat, Int.reduceNeg, Int.reduceSub, Int.reduceAdd, h, r0, r1, r2, hc1, hd1, v2, v3]
theorem bytes_h (l : List MetaD) (hl : l.length ≤ 1000000) (hs : ∀ m ∈ l, 0 ≤ m.size ∧ m.size ≤ 1048576) : Hv.ACalls Try.prog 33 [.sl (l.map metaH)] (.lit (.int .i64 (sizeL l))) := by
  refine acallsC_of (rs := [.tmp 2]) ⟨[0, 2, 3, 4, 8], [], [], [], []⟩ TOk mixed Try.func33 rfl rfl (by kernel_rfl) (by kernel_rfl) rfl (nid1 (noId_metas l)) (.lit _) ?_
  have hbd : ∀ k, k ≤ l.length → 0 ≤ sizeL (l.take k) ∧ sizeL (l.take k) ≤ 1048576 * (k : Int) := fun k => by
    induction k with
    | zero => intro _; exact ⟨by simp [sizeL], by simp [sizeL]⟩
    | succ k ih =>
      intro hk
      have := ih (by omega)
      obtain ⟨x, hx⟩ : ∃ x, l[k]? = some x := ⟨_, List.getElem?_eq_getElem (by omega)⟩
      have h2 := hs x (List.mem_of_getElem? hx)
      have h3 : sizeL (l.take (k + 1)) = sizeL (l.take k) + x.size := by
        rw [List.take_add_one, hx]; unfold sizeL; rw [List.foldl_append]; rfl
      rw [h3]; omega
  simp only [push_cast, Nat.reduceBEq, Nat.reduceAdd, Nat.reduceEqDiff, reduceCtorEq, Nat.reduceLeDiff, Nat.reduceSub, Nat.reduceMul, Nat.reduceLT, Int.reduceEq, Int.reduceLT, Int.reduceLE, Int.reduceBEq, Int.reduceBNe, Int.reduceToNat, Int.reduceNeg, Int.reduceSub, Int.reduceAdd]
  refine loopK (fun m x => ∃ k : Nat, k ≤ l.length ∧ m = l.length - k ∧ x = ⟨[(0, .sl (l.map metaH)), (3, .lit (.int .i64 (sizeL (l.take k)))), (4, .lit (.int .i64 (k : Int)))], fun _ => none, 0⟩) _ [0, 3, 4] (by exact ⟨0, by omega, rfl, rfl⟩) ?_
  rintro m _ ⟨k, hk, rfl, rfl⟩
  by_cases h : k < l.length
  · obtain ⟨x, hx⟩ : ∃ x, l[k]? = some x := ⟨_, List.getElem?_eq_getElem h⟩
    have hw := wrap_nat (k := k) (by omega)
    have h3 : sizeL (l.take k) + x.size = sizeL (l.take (k + 1)) := by
      rw [List.take_add_one, hx]; unfold sizeL; rw [List.foldl_append]; rfl
    have hb := hbd (k + 1) (by omega)
    have hw2 : IntKind.i64.wrap (sizeL (l.take k) + x.size) = sizeL (l.take (k + 1)) := by
      rw [h3]; exact IntWalk.i64_in _ (by omega)
    simp only [push_cast, Nat.reduceBEq, Nat.reduceAdd, Nat.reduceEqDiff, reduceCtorEq, Nat.reduceLeDiff, Nat.reduceSub, Nat.reduceMul, Nat.reduceLT, Int.reduceEq, Int.reduceLT, Int.reduceLE, Int.reduceBEq, Int.reduceBNe, Int.reduceToNat, Int.reduceNeg, Int.reduceSub, Int.reduceAdd, h, hx, metaH, hw, hw2]
    exact ⟨_, by omega, k + 1, by omega, rfl, rfl⟩
  · obtain rfl : k = l.length := by omega
    simp only [push_cast, Nat.reduceBEq, Nat.reduceAdd, Nat.reduceEqDiff, reduceCtorEq, Nat.reduceLeDiff, Nat.reduceSub, Nat.reduceMul, Nat.reduceLT, Int.reduceEq, Int.reduceLT, Int.reduceLE, Int.reduceBEq, Int.reduceBNe, Int.reduceToNat, Int.reduceNeg, Int.reduceSub, Int.reduceAdd, h, List.take_length]
/-- How many of the greatest numbers are taken, from one downwards. -/
def topRun : List Int → Int → Nat
  | [], _ => 0
  | x :: r, n => if x = n then topRun r (n - 1) + 1 else 0
def unusedZ (l : List Int) : Int := 999999 - (topRun l.reverse 999999 : Int)
theorem topRun_le : ∀ (r : List Int) (n : Int), topRun r n ≤ r.length
  | [], _ => Nat.le_refl _
  | x :: r, n => by
    unfold topRun
    split
    · have := topRun_le r (n - 1); rw [List.length_cons]; omega
    · exact Nat.zero_le _
theorem topRun_no : ∀ (r : List Int) (n : Int), (r.Pairwise fun a b => b < a) → (∀ x ∈ r, x ≤ n) → n - (topRun r n : Int) ∉ r
  | [], _, _, _ => List.not_mem_nil
  | x :: r, n, hp, hn => by
    obtain ⟨h1, h2⟩ := List.pairwise_cons.1 hp
    unfold topRun
    by_cases e : x = n
    · rw [if_pos e]
      have ih := topRun_no r (n - 1) h2 fun y hy => by have := h1 y hy; omega
      intro hm
      rcases List.mem_cons.1 hm with h | h
      · omega
      · apply ih
        rw [show n - 1 - (topRun r (n - 1) : Int) = n - ((topRun r (n - 1) + 1 : Nat) : Int) by omega]; exact h
    · rw [if_neg e]
      have hx := hn x List.mem_cons_self
      intro hm
      rcases List.mem_cons.1 hm with h | h
      · omega
      · have := h1 _ h; omega
theorem unusedZ_no {l : List Int} (hs : l.Pairwise fun a b => a ≤ b) (hd : l.Nodup) (h : ∀ x ∈ l, x ≤ 999999) : unusedZ l ∉ l := by
  have hp : l.Pairwise fun a b => a < b := (List.Pairwise.and hs hd).imp fun ⟨h1, h2⟩ => by omega
  intro hm
  refine topRun_no l.reverse 999999 (List.pairwise_reverse.2 hp) (fun x hx => h x (List.mem_reverse.1 hx)) ?_
  exact List.mem_reverse.2 hm
theorem topRun_step : ∀ (r : List Int) (n : Int) (k : Nat), (∀ j, j < k → r[j]? = some (n - (j : Int))) → topRun r n = k + topRun (r.drop k) (n - (k : Int))
  | r, n, 0, _ => by rw [List.drop_zero, Int.natCast_zero, Int.sub_zero, Nat.zero_add]
  | [], n, k + 1, h => by have := h 0 (by omega); simp at this
  | x :: r, n, k + 1, h => by
    have h0 := h 0 (by omega)
    simp only [List.getElem?_cons_zero, Option.some.injEq, Int.natCast_zero, Int.sub_zero] at h0
    have ih := topRun_step r (n - 1) k fun j hj => by
      have := h (j + 1) (by omega)
      rw [List.getElem?_cons_succ] at this
      rw [this, show n - ((j + 1 : Nat) : Int) = n - 1 - (j : Int) by omega]
    rw [List.drop_succ_cons, show n - ((k + 1 : Nat) : Int) = n - 1 - (k : Int) by omega]
    rw [topRun, if_pos h0, ih]; omega
theorem unused_h (s : StD) (hf : ((allS s).map (·.file)).Nodup) (hl : ∀ i, i < 4 → (s.lv i).length ≤ 100000) : Hv.ACalls Try.prog 30 [stH s] (.lit (.int .i64 (unusedZ (filesS s)))) := by
  refine acallsC_of (rs := [.tmp 2]) ⟨[0, 1, 2, 3, 4, 5, 20], [], [], [], []⟩ TOk mixed Try.func30 rfl rfl (by kernel_rfl) (by kernel_rfl) rfl (nid1 (noId_st s)) (.lit _) ?_
  have hfi := files_h s hf hl
  have hlen : (filesS s).length ≤ 400000 := by
    unfold filesS
    rw [(sortZ_perm _).length_eq, List.length_map]
    have := hl 0 (by omega)
    have := hl 1 (by omega)
    have := hl 2 (by omega)
    have := hl 3 (by omega)
    unfold allS; simp only [List.length_append]; omega
  unfold stH at hfi
  simp only [push_cast, Nat.reduceBEq, Nat.reduceAdd, Nat.reduceEqDiff, reduceCtorEq, Nat.reduceLeDiff, Nat.reduceSub, Nat.reduceMul, Nat.reduceLT, Int.reduceEq, Int.reduceLT, Int.reduceLE, Int.reduceBEq, Int.reduceBNe, Int.reduceToNat, Int.reduceNeg, Int.reduceSub, Int.reduceAdd, stH]
  refine callK hfi ?_
  unfold unusedZ
  generalize filesS s = L at hlen
  have hwl : IntKind.i64.wrap ((L.length : Int) - 1) = (L.length : Int) - 1 := IntWalk.i64_in _ (by omega)
  simp only [push_cast, Nat.reduceBEq, Nat.reduceAdd, Nat.reduceEqDiff, reduceCtorEq, Nat.reduceLeDiff, Nat.reduceSub, Nat.reduceMul, Nat.reduceLT, Int.reduceEq, Int.reduceLT, Int.reduceLE, Int.reduceBEq, Int.reduceBNe, Int.reduceToNat, Int.reduceNeg, Int.reduceSub, Int.reduceAdd, hwl]
  refine loopK (fun m x => ∃ (k : Nat) (H : Hp), k ≤ L.length ∧ m = L.length - k ∧ (∀ j, j < k → L.reverse[j]? = some (999999 - (j : Int))) ∧ x = ⟨[(3, .sl (L.map intH)), (4, .lit (.int .i64 (999999 - (k : Int)))), (5, .lit (.int .i64 ((L.length : Int) - 1 - (k : Int))))], H, 1⟩) _ [3, 4, 5] (by exact ⟨0, _, by omega, rfl, fun j hj => by omega, by simp; rfl⟩) ?_
  rintro m _ ⟨k, H, hk, rfl, hr, rfl⟩
  have hst := topRun_step L.reverse 999999 k hr
  by_cases h : k < L.length
  · have hge : (L.length : Int) - 1 - (k : Int) ≥ 0 := by omega
    obtain ⟨q, hq⟩ : ∃ q : Nat, (L.length : Int) - 1 - (k : Int) = (q : Int) := ⟨L.length - 1 - k, by omega⟩
    obtain ⟨x, hx⟩ : ∃ x, L[q]? = some x := ⟨_, List.getElem?_eq_getElem (by omega)⟩
    have hrx : L.reverse[k]? = some x := by rw [List.getElem?_reverse h, ← hx]; congr 1; omega
    have hdr : L.reverse.drop k = x :: L.reverse.drop (k + 1) := by
      obtain ⟨hk', e1⟩ := List.getElem?_eq_some_iff.1 hrx
      rw [← e1]; exact List.drop_eq_getElem_cons hk'
    have hq0 : (q : Int) ≥ 0 := by omega
    by_cases e : x = 999999 - (k : Int)
    · have e' : (x == 999999 - (k : Int)) = true := by simpa using e
      have w1 : IntKind.i64.wrap (999999 - (k : Int) - 1) = 999999 - ((k + 1 : Nat) : Int) := by
        rw [show (999999 : Int) - (k : Int) - 1 = 999999 - ((k + 1 : Nat) : Int) by omega]; exact IntWalk.i64_in _ (by omega)
      have w2 : IntKind.i64.wrap ((q : Int) - 1) = (L.length : Int) - 1 - ((k + 1 : Nat) : Int) := by
        rw [show (q : Int) - 1 = (L.length : Int) - 1 - ((k + 1 : Nat) : Int) by omega]; exact IntWalk.i64_in _ (by omega)
      simp only [push_cast, Nat.reduceBEq, Nat.reduceAdd, Nat.reduceEqDiff, reduceCtorEq, Nat.reduceLeDiff, Nat.reduceSub, Nat.reduceMul, Nat.reduceLT, Int.reduceEq, Int.reduceLT, Int.reduceLE, Int.reduceBEq, Int.reduceBNe, Int.reduceToNat, Int.reduceNeg, Int.reduceSub, Int.reduceAdd, hq, hq0, hx, intH, e', w1, w2]
      exact ⟨_, by omega, k + 1, H, by omega, rfl, fun j hj => by
        by_cases hjk : j < k
        · exact hr j hjk
        · obtain rfl : j = k := by omega
          rw [hrx, e], rfl⟩
    · have e' : (x == 999999 - (k : Int)) = false := by simpa using e
      have ht : topRun L.reverse 999999 = k := by rw [hst, hdr, topRun, if_neg e]; rfl
      simp only [push_cast, Nat.reduceBEq, Nat.reduceAdd, Nat.reduceEqDiff, reduceCtorEq, Nat.reduceLeDiff, Nat.reduceSub, Nat.reduceMul, Nat.reduceLT, Int.reduceEq, Int.reduceLT, Int.reduceLE, Int.reduceBEq, Int.reduceBNe, Int.reduceToNat, Int.reduceNeg, Int.reduceSub, Int.reduceAdd, hq, hq0, hx, intH, e', ht]
  · obtain rfl : k = L.length := by omega
    have hge : ¬ (L.length : Int) - 1 - (L.length : Int) ≥ 0 := by omega
    have ht : topRun L.reverse 999999 = L.length := by
      rw [hst, List.drop_of_length_le (by simp)]; rfl
    simp only [push_cast, Nat.reduceBEq, Nat.reduceAdd, Nat.reduceEqDiff, reduceCtorEq, Nat.reduceLeDiff, Nat.reduceSub, Nat.reduceMul, Nat.reduceLT, Int.reduceEq, Int.reduceLT, Int.reduceLE, Int.reduceBEq, Int.reduceBNe, Int.reduceToNat, Int.reduceNeg, Int.reduceSub, Int.reduceAdd, hge, ht]
/-! ### states -/
def grow1 (s : StD) (a : AddD) : StD := if (docApply s (oneE a)).2 = 0 then (docApply s (oneE a)).1 else s
theorem growS_is (l : List AddD) : growS l = (l.take 30).foldl grow1 emptyS := rfl
theorem noId_adds' (l : List AddD) : NoId (.sl (l.map addH)) := noId_adds l
theorem grown_h (l : List AddD) : Hv.ACalls Try.prog 14 [.sl (l.map addH)] (stH (growS l)) := by
  refine acallsC_of (rs := [.cell 2 28]) ⟨[0, 2, 3, 4, 5, 6, 15, 30], [], [], [(5, [(0, [], []), (1, [], []), (2, [], []), (3, [], []), (4, [], []), (5, [], []), (6, [], []), (7, [], [0, 6, 5, 1, 2, 4, 3]), (8, [], []), (9, [], []), (10, [], []), (11, [0], []), (12, [], [11, 9, 7, 0, 1, 2, 3, 4, 5, 6, 8]), (13, [], [10, 12, 0, 1, 2, 3, 4, 5, 6, 7, 8, 9, 11])])], []⟩ TOk mixed Try.func14 rfl rfl (by kernel_rfl) (by kernel_rfl) rfl (nid1 (noId_adds l)) (noId_st _) ?_
  have hem : Hv.ACalls Try.prog 41 [] (stH emptyS) := by
    refine acallsC_of (rs := [.cell 0 28]) ⟨[0], [], [], [], []⟩ TOk mixed Try.func41 rfl rfl (by kernel_rfl) (by kernel_rfl) rfl (by simp) (noId_st _) ?_
    simp only [push_cast, Nat.reduceBEq, Nat.reduceAdd, Nat.reduceEqDiff, reduceCtorEq, Nat.reduceLeDiff, Nat.reduceSub, Nat.reduceMul, Nat.reduceLT, Int.reduceEq, Int.reduceLT, Int.reduceLE, Int.reduceBEq, Int.reduceBNe, Int.reduceToNat, Int.reduceNeg, Int.reduceSub, Int.reduceAdd]
    rfl
  unfold stH at hem
  simp only [push_cast, Nat.reduceBEq, Nat.reduceAdd, Nat.reduceEqDiff, reduceCtorEq, Nat.reduceLeDiff, Nat.reduceSub, Nat.reduceMul, Nat.reduceLT, Int.reduceEq, Int.reduceLT, Int.reduceLE, Int.reduceBEq, Int.reduceBNe, Int.reduceToNat, Int.reduceNeg, Int.reduceSub, Int.reduceAdd, stH]
  refine callK hem ?_
  simp only [push_cast, Nat.reduceBEq, Nat.reduceAdd, Nat.reduceEqDiff, reduceCtorEq, Nat.reduceLeDiff, Nat.reduceSub, Nat.reduceMul, Nat.reduceLT, Int.reduceEq, Int.reduceLT, Int.reduceLE, Int.reduceBEq, Int.reduceBNe, Int.reduceToNat, Int.reduceNeg, Int.reduceSub, Int.reduceAdd]
  refine loopK (fun m x => ∃ (k nx : Nat) (H : Hp), x = ⟨[(0, .sl (l.map addH)), (2, .ptr 0 0), (3, .ptr 1 0), (4, .lit (.int .i64 (k : Int)))], H, nx⟩ ∧ k ≤ l.length ∧ k ≤ 30 ∧ m = l.length - k ∧ 2 ≤ nx ∧ H 0 = some (.cells zeroC) ∧ H 1 = some (.cells (stCells ((l.take k).foldl grow1 emptyS)))) _ [0, 2, 3, 4] (by exact ⟨0, 2, _, rfl, by omega, by omega, rfl, by omega, rfl, rfl⟩) ?_
  rintro m _ ⟨k, nx, H, rfl, hk, hk30, rfl, hnx, r0, r1⟩
  have hgd := gd_mono (grow_fold (l.take k) emptyS 0 empty_gd) (k' := 30) (by rw [List.length_take]; omega)
  have hgd : Gd ((l.take k).foldl grow1 emptyS) 30 := hgd
  unfold zeroC nilA at r0
  have hnext : ∀ a, l[k]? = some a → (l.take (k + 1)).foldl grow1 emptyS = grow1 ((l.take k).foldl grow1 emptyS) a := fun a ha => by
    rw [List.take_add_one, ha, List.foldl_append]; rfl
  have hfin : (l.length ≤ k ∨ 30 ≤ k) → (l.take k).foldl grow1 emptyS = growS l := fun h => by
    rw [growS_is]
    rcases h with h | h
    · rw [List.take_of_length_le h, List.take_of_length_le (by omega)]
    · rw [show k = 30 by omega]
  generalize (l.take k).foldl grow1 emptyS = S at r1 hgd hnext hfin
  have r1' := r1
  unfold stCells at r1
  by_cases h : k < l.length
  · by_cases h30 : k < 30
    · obtain ⟨a, ha⟩ : ∃ a, l[k]? = some a := ⟨_, List.getElem?_eq_getElem h⟩
      have hnext := hnext a ha
      have hwk := wrap_nat (k := k) (by omega)
      have h30' : (k : Int) < 30 := by omega
      have hdo := docApply_h S (oneE a) (fun n hn => Nat.le_trans (hgd.few n hn) (by omega))
      have hsl : List.drop k (List.take ((k : Int) + 1).toNat (l.map addH)) = [addH a] := by
        obtain ⟨hk', e1⟩ := List.getElem?_eq_some_iff.1 ha
        rw [show ((k : Int) + 1).toNat = k + 1 by omega, ← List.map_take, ← List.map_drop, List.take_succ_eq_append_getElem hk', List.drop_append_of_le_length (by simp; omega), List.drop_of_length_le (by simp; omega), e1]; rfl
      have e0 : (nx == 0) = false := neB (by omega)
      have e1 : (nx == 1) = false := neB (by omega)
      have hk1 : (k : Int) ≤ (k : Int) + 1 := by omega
      have hk2 : (k : Int) + 1 ≤ (l.length : Int) := by omega
      have hk3 : k + 1 ≤ l.length := by omega
      have hs1 : ((k : Int) + 1 - (k : Int)).toNat = 1 := by omega
      obtain ⟨D, hD⟩ : ∃ x, docApply S (oneE a) = x := ⟨_, rfl⟩
      have hg1 : grow1 S a = if D.2 = 0 then D.1 else S := by unfold grow1; rw [hD]
      rw [hD] at hdo
      obtain ⟨T, f⟩ := D
      unfold stH edH oneE at hdo
      have hal : ∀ a, (addH a).length = 5 := fun _ => rfl
      simp only [push_cast, Nat.reduceBEq, Nat.reduceAdd, Nat.reduceEqDiff, reduceCtorEq, Nat.reduceLeDiff, Nat.reduceSub, Nat.reduceMul, Nat.reduceLT, Int.reduceEq, Int.reduceLT, Int.reduceLE, Int.reduceBEq, Int.reduceBNe, Int.reduceToNat, Int.reduceNeg, Int.reduceSub, Int.reduceAdd, h, h30', hwk, r1, hk1, hk2, hal, hsl]
      refine callD hdo ?_
      by_cases hf : f = 0
      · subst hf
        rw [if_pos rfl] at hg1
        have e2 : (0 == nx) = false := neB (by omega)
        have e3 : (1 == nx) = false := neB (by omega)
        simp only [push_cast, Nat.reduceBEq, Nat.reduceAdd, Nat.reduceEqDiff, reduceCtorEq, Nat.reduceLeDiff, Nat.reduceSub, Nat.reduceMul, Nat.reduceLT, Int.reduceEq, Int.reduceLT, Int.reduceLE, Int.reduceBEq, Int.reduceBNe, Int.reduceToNat, Int.reduceNeg, Int.reduceSub, Int.reduceAdd, r1, e0, e1, e2, e3, hwk]
        refine ⟨_, by omega, k + 1, nx + 1, _, rfl, by omega, by omega, rfl, by omega, ?_, ?_⟩
        · (repeat rw [upd_other (by omega)]); exact r0
        · rw [hnext, hg1]; exact upd_same _ _ _
      · have hf' : (f == 0) = false := by simpa using hf
        rw [if_neg hf] at hg1
        simp only [push_cast, Nat.reduceBEq, Nat.reduceAdd, Nat.reduceEqDiff, reduceCtorEq, Nat.reduceLeDiff, Nat.reduceSub, Nat.reduceMul, Nat.reduceLT, Int.reduceEq, Int.reduceLT, Int.reduceLE, Int.reduceBEq, Int.reduceBNe, Int.reduceToNat, Int.reduceNeg, Int.reduceSub, Int.reduceAdd, r1, e0, e1, hf', hwk]
        refine ⟨_, by omega, k + 1, nx + 1, _, rfl, by omega, by omega, rfl, by omega, ?_, ?_⟩
        · (repeat rw [upd_other (by omega)]); exact r0
        · rw [hnext, hg1]; (repeat rw [upd_other (by omega)]); exact r1'
    · have hfin := hfin (.inr (by omega))
      have h30' : ¬ (k : Int) < 30 := by omega
      subst hfin
      simp only [push_cast, Nat.reduceBEq, Nat.reduceAdd, Nat.reduceEqDiff, reduceCtorEq, Nat.reduceLeDiff, Nat.reduceSub, Nat.reduceMul, Nat.reduceLT, Int.reduceEq, Int.reduceLT, Int.reduceLE, Int.reduceBEq, Int.reduceBNe, Int.reduceToNat, Int.reduceNeg, Int.reduceSub, Int.reduceAdd, h, h30', r0, r1]
  · have hfin := hfin (.inl (by omega))
    subst hfin
    simp only [push_cast, Nat.reduceBEq, Nat.reduceAdd, Nat.reduceEqDiff, reduceCtorEq, Nat.reduceLeDiff, Nat.reduceSub, Nat.reduceMul, Nat.reduceLT, Int.reduceEq, Int.reduceLT, Int.reduceLE, Int.reduceBEq, Int.reduceBNe, Int.reduceToNat, Int.reduceNeg, Int.reduceSub, Int.reduceAdd, h, r0, r1]
theorem to19_h (s : StD) (hl : ∀ i, i < 4 → (s.lv i).length ≤ 1000000) : Hv.ACalls Try.prog 15 [stH s] (stH s) := by
  refine acallsC_of (rs := [.cell 2 33]) ⟨[0, 1, 2, 3, 4, 13], [], [], [], []⟩ TOk mixed Try.func15 rfl rfl (by kernel_rfl) (by kernel_rfl) rfl (nid1 (noId_st s)) (noId_st s) ?_
  simp only [push_cast, Nat.reduceBEq, Nat.reduceAdd, Nat.reduceEqDiff, reduceCtorEq, Nat.reduceLeDiff, Nat.reduceSub, Nat.reduceMul, Nat.reduceLT, Int.reduceEq, Int.reduceLT, Int.reduceLE, Int.reduceBEq, Int.reduceBNe, Int.reduceToNat, Int.reduceNeg, Int.reduceSub, Int.reduceAdd, stH]
  refine loopK (fun n x => ∃ (i : Nat) (H : Hp), i ≤ 4 ∧ H 0 = some (.cells (stCells s)) ∧ H 1 = some (.cells zeroC) ∧
    H 2 = some (.cells [.lit (.int .i64 s.log), .lit (.int .i64 s.next), .lit (.int .i64 s.seq), lvUp s i 0, lvUp s i 1, lvUp s i 2, lvUp s i 3]) ∧ n = 4 - i ∧ x = ⟨[(1, .ptr 0 0), (2, .ptr 1 0), (3, .ptr 2 0), (4, .lit (.int .i64 (i : Int)))], H, 3⟩) _ [1, 2, 3, 4] ⟨0, _, by omega, rfl, rfl, rfl, rfl, rfl⟩ ?_
  rintro n _ ⟨i, H, hi, h0', h1', h2, rfl, rfl⟩
  have h0 := h0'
  have h1 := h1'
  unfold stCells at h0
  unfold zeroC nilA at h1
  obtain rfl | rfl | rfl | rfl | rfl : i = 0 ∨ i = 1 ∨ i = 2 ∨ i = 3 ∨ i = 4 := by omega
  case inr.inr.inr.inr =>
    rw [lvUp_lt (by omega), lvUp_lt (by omega), lvUp_lt (by omega), lvUp_lt (by omega)] at h2
    simp only [push_cast, Nat.reduceBEq, Nat.reduceAdd, Nat.reduceEqDiff, reduceCtorEq, Nat.reduceLeDiff, Nat.reduceSub, Nat.reduceMul, Nat.reduceLT, Int.reduceEq, Int.reduceLT, Int.reduceLE, Int.reduceBEq, Int.reduceBNe, Int.reduceToNat, Int.reduceNeg, Int.reduceSub, Int.reduceAdd, h0, h1, h2]
  · simp only [push_cast, Nat.reduceBEq, Nat.reduceAdd, Nat.reduceEqDiff, reduceCtorEq, Nat.reduceLeDiff, Nat.reduceSub, Nat.reduceMul, Nat.reduceLT, Int.reduceEq, Int.reduceLT, Int.reduceLE, Int.reduceBEq, Int.reduceBNe, Int.reduceToNat, Int.reduceNeg, Int.reduceSub, Int.reduceAdd, h0, h1, h2]
    refine callK (tables19_h _ (hl 0 (by omega))) ?_
    have hw : IntKind.i64.wrap 1 = 1 := by decide
    simp only [push_cast, Nat.reduceBEq, Nat.reduceAdd, Nat.reduceEqDiff, reduceCtorEq, Nat.reduceLeDiff, Nat.reduceSub, Nat.reduceMul, Nat.reduceLT, Int.reduceEq, Int.reduceLT, Int.reduceLE, Int.reduceBEq, Int.reduceBNe, Int.reduceToNat, Int.reduceNeg, Int.reduceSub, Int.reduceAdd, h0, h1, h2, hw]
    exact ⟨_, by omega, 1, upd H 2 _, by omega, h0', h1', rfl, rfl, rfl⟩
  · simp only [push_cast, Nat.reduceBEq, Nat.reduceAdd, Nat.reduceEqDiff, reduceCtorEq, Nat.reduceLeDiff, Nat.reduceSub, Nat.reduceMul, Nat.reduceLT, Int.reduceEq, Int.reduceLT, Int.reduceLE, Int.reduceBEq, Int.reduceBNe, Int.reduceToNat, Int.reduceNeg, Int.reduceSub, Int.reduceAdd, h0, h1, h2]
    refine callK (tables19_h _ (hl 1 (by omega))) ?_
    have hw : IntKind.i64.wrap 2 = 2 := by decide
    simp only [push_cast, Nat.reduceBEq, Nat.reduceAdd, Nat.reduceEqDiff, reduceCtorEq, Nat.reduceLeDiff, Nat.reduceSub, Nat.reduceMul, Nat.reduceLT, Int.reduceEq, Int.reduceLT, Int.reduceLE, Int.reduceBEq, Int.reduceBNe, Int.reduceToNat, Int.reduceNeg, Int.reduceSub, Int.reduceAdd, h0, h1, h2, hw]
    exact ⟨_, by omega, 2, upd H 2 _, by omega, h0', h1', rfl, rfl, rfl⟩
  · simp only [push_cast, Nat.reduceBEq, Nat.reduceAdd, Nat.reduceEqDiff, reduceCtorEq, Nat.reduceLeDiff, Nat.reduceSub, Nat.reduceMul, Nat.reduceLT, Int.reduceEq, Int.reduceLT, Int.reduceLE, Int.reduceBEq, Int.reduceBNe, Int.reduceToNat, Int.reduceNeg, Int.reduceSub, Int.reduceAdd, h0, h1, h2]
    refine callK (tables19_h _ (hl 2 (by omega))) ?_
    have hw : IntKind.i64.wrap 3 = 3 := by decide
    simp only [push_cast, Nat.reduceBEq, Nat.reduceAdd, Nat.reduceEqDiff, reduceCtorEq, Nat.reduceLeDiff, Nat.reduceSub, Nat.reduceMul, Nat.reduceLT, Int.reduceEq, Int.reduceLT, Int.reduceLE, Int.reduceBEq, Int.reduceBNe, Int.reduceToNat, Int.reduceNeg, Int.reduceSub, Int.reduceAdd, h0, h1, h2, hw]
    exact ⟨_, by omega, 3, upd H 2 _, by omega, h0', h1', rfl, rfl, rfl⟩
  · simp only [push_cast, Nat.reduceBEq, Nat.reduceAdd, Nat.reduceEqDiff, reduceCtorEq, Nat.reduceLeDiff, Nat.reduceSub, Nat.reduceMul, Nat.reduceLT, Int.reduceEq, Int.reduceLT, Int.reduceLE, Int.reduceBEq, Int.reduceBNe, Int.reduceToNat, Int.reduceNeg, Int.reduceSub, Int.reduceAdd, h0, h1, h2]
    refine callK (tables19_h _ (hl 3 (by omega))) ?_
    have hw : IntKind.i64.wrap 4 = 4 := by decide
    simp only [push_cast, Nat.reduceBEq, Nat.reduceAdd, Nat.reduceEqDiff, reduceCtorEq, Nat.reduceLeDiff, Nat.reduceSub, Nat.reduceMul, Nat.reduceLT, Int.reduceEq, Int.reduceLT, Int.reduceLE, Int.reduceBEq, Int.reduceBNe, Int.reduceToNat, Int.reduceNeg, Int.reduceSub, Int.reduceAdd, h0, h1, h2, hw]
    exact ⟨_, by omega, 4, upd H 2 _, by omega, h0', h1', rfl, rfl, rfl⟩
def pk1 : MetaD := ⟨1, 1, ⟨#[97]⟩, ⟨#[99]⟩⟩
def pk2 : MetaD := ⟨2, 1, ⟨#[98]⟩, ⟨#[100]⟩⟩
def pk3 : MetaD := ⟨3, 1, ⟨#[97]⟩, ⟨#[97]⟩⟩
def pk4 : MetaD := ⟨4, 1, ⟨#[120]⟩, ⟨#[122]⟩⟩
def pkS : StD := ⟨1, 1, 0, fun n => if n = 0 then [pk1, pk2] else if n = 1 then [pk3, pk4] else []⟩
theorem pk_gd : Gd pkS 30 := by
  refine ⟨fun n m hm => ?_, fun n hn => ?_⟩
  · simp only [pkS] at hm
    split at hm
    · simp only [List.mem_cons, List.not_mem_nil, or_false] at hm; rcases hm with rfl | rfl <;> decide +kernel
    · split at hm
      · simp only [List.mem_cons, List.not_mem_nil, or_false] at hm; rcases hm with rfl | rfl <;> decide +kernel
      · simp at hm
  · simp only [pkS]
    split
    · simp
    · split <;> simp
theorem pk_next : (nextD pkS ⟨2, 100⟩).1.level = 0 ∧ (nextD pkS ⟨2, 100⟩).1.frm = [pk1, pk2] ∧ (nextD pkS ⟨2, 100⟩).1.too = [pk3] ∧ (nextD pkS ⟨2, 100⟩).1.bottom = true ∧ (nextD pkS ⟨2, 100⟩).2.1 = true ∧ (nextD pkS ⟨2, 100⟩).2.2 = 0 := by
  refine ⟨by decide +kernel, by kernel_rfl, by kernel_rfl, by decide +kernel, by decide +kernel, by decide +kernel⟩
theorem picks_h : Hv.ACalls Try.prog 20 [] (.lit (.bool true)) := by
  refine acallsC_of (rs := [.tmp 0]) ⟨[0, 1, 2, 3, 4], [], [], [], []⟩ TOk mixed Try.func20 rfl rfl (by kernel_rfl) (by kernel_rfl) rfl (by simp) (.lit _) ?_
  have hn := next_h pkS ⟨2, 100⟩ pk_gd
  obtain ⟨a1, a2, a3, a4, a5, a6⟩ := pk_next
  unfold jobH at hn
  rw [a1, a2, a3, a4, a5, a6] at hn
  simp only [push_cast, Nat.reduceBEq, Nat.reduceAdd, Nat.reduceEqDiff, reduceCtorEq, Nat.reduceLeDiff, Nat.reduceSub, Nat.reduceMul, Nat.reduceLT, Int.reduceEq, Int.reduceLT, Int.reduceLE, Int.reduceBEq, Int.reduceBNe, Int.reduceToNat, Int.reduceNeg, Int.reduceSub, Int.reduceAdd]
  refine callK (by exact hn) ?_
  simp only [push_cast, Nat.reduceBEq, Nat.reduceAdd, Nat.reduceEqDiff, reduceCtorEq, Nat.reduceLeDiff, Nat.reduceSub, Nat.reduceMul, Nat.reduceLT, Int.reduceEq, Int.reduceLT, Int.reduceLE, Int.reduceBEq, Int.reduceBNe, Int.reduceToNat, Int.reduceNeg, Int.reduceSub, Int.reduceAdd, pk1, pk2, pk3, metaH]
end Go.Proofs.Ytheanmfdfoefoaa
