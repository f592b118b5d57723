/- Edit: an edit's tables go and come, in the map of places. -/
import Derived.Test.YtheanmfdfoefoaaEdAll
namespace Go.Proofs.Ytheanmfdfoefoaa
open Go Go.RowKit Hv
set_option linter.unusedSimpArgs false

theorem find_born {κ ν : Type} {kA : κ → AV} {vA : ν → AV} {es : List (Ent κ ν)} (hn : (es.map (·.born)).Nodup) {x : Ent κ ν} (hx : x ∈ es) : (es.map (Ent.me kA vA)).find? (fun e => e.born == x.born) = some (Ent.me kA vA x) := by
  induction es with
  | nil => cases hx
  | cons y es ih =>
    rw [List.map_cons, List.nodup_cons] at hn
    rw [List.map_cons, List.find?_cons]
    rcases List.mem_cons.1 hx with rfl | hx
    · simp [Ent.me]
    · have hne : y.born ≠ x.born := fun e => hn.1 (List.mem_map.2 ⟨x, hx, e.symm⟩)
      have : ((Ent.me kA vA y).born == x.born) = false := by simpa [Ent.me] using hne
      rw [this]
      exact ih hn.2 hx
abbrev FM := Ent Int Unit
def fK (n : Int) : AV := .lit (.int .i64 n)
def fV (_ : Unit) : AV := .lit (.bool true)
def fmA (fs : List FM) : List ME := fs.map (Ent.me fK fV)
theorem keyOk_f : KeyOk fK := keyOk_int
theorem map_erase {α β : Type} (f : α → β) : ∀ (l : List α) (i : Nat), (l.map f).eraseIdx i = (l.eraseIdx i).map f
  | [], _ => rfl
  | _ :: _, 0 => rfl
  | a :: l, i + 1 => by simp only [List.map_cons, List.eraseIdx_cons_succ, map_erase f l i]
theorem pm_del (es : List PlM) (i : Nat) : (pmA es).eraseIdx i = pmA (es.eraseIdx i) := map_erase _ _ _
theorem goneS_no {s : StD} {p : PlD} {l : List PlD} (h : ¬ (withoutL (s.lv p.level.toNat) p.file).length < (s.lv p.level.toNat).length) : goneS s (p :: l) = none := by
  simp only [goneS]; rw [if_neg h]
theorem goneS_yes {s : StD} {p : PlD} {l : List PlD} (h : (withoutL (s.lv p.level.toNat) p.file).length < (s.lv p.level.toNat).length) : goneS s (p :: l) = goneS (s.with p.level.toNat (withoutL (s.lv p.level.toNat) p.file)) l := by
  simp only [goneS]; rw [if_pos h]
/-- The files of the entries that a walk has seen. -/
def FilesOf (fs : List FM) (es : List PlM) (seen : List Nat) : Prop := ∀ f, (lookE fs f).isSome = true ↔ ∃ x ∈ es, x.born ∈ seen ∧ x.key.file = f
theorem files_put {fs : List FM} {es : List PlM} {seen : List Nat} {fc : Nat} (h : FilesOf fs es seen) {x : PlM} (hx : x ∈ es) (hb : (es.map (·.born)).Nodup) : FilesOf (putE fs fc x.key.file ()).1 es (seen ++ [x.born]) := by
  intro f
  rw [lookE_put]
  by_cases hf : f = x.key.file
  · subst hf
    simp only [if_true, Option.isSome_some, true_iff]
    exact ⟨x, hx, by simp, rfl⟩
  · rw [if_neg hf, h f]
    constructor
    · rintro ⟨y, hy, h1, h2⟩; exact ⟨y, hy, by simp [h1], h2⟩
    · rintro ⟨y, hy, h1, h2⟩
      rcases List.mem_append.1 h1 with h1 | h1
      · exact ⟨y, hy, h1, h2⟩
      · simp only [List.mem_singleton] at h1
        obtain ⟨i, hi, rfl⟩ := List.mem_iff_getElem.1 hx
        obtain ⟨j, hj, rfl⟩ := List.mem_iff_getElem.1 hy
        have := (List.getElem_inj (xs := es.map (·.born)) (i := j) (j := i) (h₀ := by simpa using hj) (h₁ := by simpa using hi) hb).1 (by simpa using h1)
        subst this
        exact absurd h2.symm hf
theorem files_all {fs : List FM} {es : List PlM} {seen : List Nat} {s : StD} (h : FilesOf fs es seen) (hl : leftL es seen = []) (hr : Rel es s) (f : Int) : (lookE fs f).isSome = true ↔ hasB s f = true := by
  rw [h f, rel_has hr]
  constructor
  · rintro ⟨x, hx, _, h2⟩; exact ⟨x, hx, h2⟩
  · rintro ⟨x, hx, h2⟩
    refine ⟨x, hx, ?_, h2⟩
    have : ¬ x ∈ leftL es seen := by rw [hl]; simp
    unfold leftL at this
    rw [List.mem_filter] at this
    simpa [hx] using this
theorem has_with {s : StD} {a : AddD} (ha : addB a = true) (f : Int) : hasB (s.with a.level.toNat (putL (s.lv a.level.toNat) a.t a.level.toNat)) f = true ↔ f = a.t.file ∨ hasB s f = true := by
  obtain ⟨n, hn, _, hnn⟩ := addB_lv ha
  rw [hasB_iff, hasB_iff, hnn]
  have hp := with_perm s n hn a.t n
  constructor
  · rintro ⟨m, hm, rfl⟩
    rcases List.mem_cons.1 (hp.mem_iff.1 hm) with rfl | hm
    · exact .inl rfl
    · exact .inr ⟨m, hm, rfl⟩
  · rintro (rfl | ⟨m, hm, rfl⟩)
    · exact ⟨a.t, hp.mem_iff.2 List.mem_cons_self, rfl⟩
    · exact ⟨m, hp.mem_iff.2 (List.mem_cons_of_mem _ hm), rfl⟩
theorem newS_no {s : StD} {a : AddD} {l : List AddD} (h : hasB s a.t.file = true) : newS s (a :: l) = none := by simp only [newS]; rw [if_pos h]
theorem newS_yes {s : StD} {a : AddD} {l : List AddD} (h : hasB s a.t.file = false) : newS s (a :: l) = newS (s.with a.level.toNat (putL (s.lv a.level.toNat) a.t a.level.toNat)) l := by simp only [newS]; rw [if_neg (by rw [h]; simp)]
theorem left_len {es : List PlM} {seen : List Nat} (hb : (es.map (·.born)).Nodup) {x : PlM} (hx : x ∈ leftL es seen) : (leftL es (seen ++ [x.born])).length < (leftL es seen).length := by
  have := (leftL_next hb hx).length_eq
  simp only [List.length_cons] at this
  omega
theorem fm_push (fs : List FM) (f : Int) (c : Nat) : fmA fs ++ [⟨.lit (.int .i64 f), .lit (.bool true), c⟩] = fmA (fs ++ [⟨f, (), c⟩]) := by
  simp [fmA, Ent.me, fK, fV]
theorem fm_set (fs : List FM) (i : Nat) (f : Int) (c : Nat) : (fmA fs).set i ⟨.lit (.int .i64 f), .lit (.bool true), c⟩ = fmA (fs.set i ⟨f, (), c⟩) := by
  unfold fmA
  rw [List.map_set]
  rfl
def swapCode (s : StD) (e : EdD) : Int := match goneS s e.gone with
  | none => 7
  | some s1 => match newS s1 e.new with
    | none => 8
    | some s2 => if 1000 < countS s2 then 14 else 0
def SwapPost (H : Hp) (n id : Nat) (s : StD) (e : EdD) (r : AV) (H' : Hp) (n' : Nat) : Prop :=
  r = .lit (.int .i64 (swapCode s e)) ∧ n ≤ n' ∧ (∀ j, j < n → j ≠ id → H' j = H j) ∧
    (swapCode s e = 0 → ∃ s1 s2 es clock, goneS s e.gone = some s1 ∧ newS s1 e.new = some s2 ∧ countS s2 ≤ 1000 ∧ H' id = some (.map (pmA es) clock) ∧ MapOk es clock ∧ Rel es s2)
theorem fr_upd {H H1 : Hp} {n id i : Nat} {o : Option AO} (h : ∀ j, j < n → j ≠ id → H1 j = H j) (hi : n ≤ i ∨ i = id) : ∀ j, j < n → j ≠ id → upd H1 i o j = H j := fun j hj hne => by
  rw [upd_other (by omega)]; exact h j hj hne
theorem drop_cons {α : Type} {l : List α} {k : Nat} {x : α} (h : l[k]? = some x) : l.drop k = x :: l.drop (k + 1) := by
  obtain ⟨hk, rfl⟩ := List.getElem?_eq_some_iff.1 h
  exact List.drop_eq_getElem_cons hk
def edCells (e : EdD) : List AV := [.lit (.int .i64 e.log), .lit (.int .i64 e.next), .lit (.int .i64 e.seq), .sl (e.gone.map plH), .sl (e.new.map addH)]
set_option maxRecDepth 20000 in
set_option maxHeartbeats 8000000 in
theorem swap_h {H : Hp} {n id clock : Nat} {es : List PlM} (s : StD) (e : EdD) (hid : id < n) (ho : H id = some (.map (pmA es) clock)) (hmo : MapOk es clock) (hrel : Rel es s) (hg : e.gone.all plB = true) (hn : e.new.all addB = true) (hgl : e.gone.length ≤ 1000) (hnl : e.new.length ≤ 1000) :
    HCalls Try.prog 61 [edH e, .mp id] H n (SwapPost H n id s e) := by
  refine hcallsC_of (rs := [.tmp 4]) ⟨[0, 1, 2, 4, 6, 8, 9, 10, 12, 14, 15, 16, 17, 27, 33, 35, 42, 43, 44, 45, 52, 69], [], [], [], [], []⟩ TOk mixed Try.func61 rfl rfl (by kernel_rfl) (by kernel_rfl) rfl ?_
  have hne0 : (n == id) = false := by rw [← Bool.not_eq_true, beq_iff_eq]; omega
  simp only [push_cast, Nat.reduceBEq, Nat.reduceAdd, Nat.reduceEqDiff, reduceCtorEq, Nat.reduceLeDiff, Nat.reduceSub, Nat.reduceMul, Nat.reduceLT, Int.reduceEq, Int.reduceLT, Int.reduceLE, Int.reduceBEq, Int.reduceBNe, Int.reduceToNat, Int.reduceNeg, Int.reduceSub, Int.reduceAdd, edH, nbq1_0 n]
  refine loopK (fun m s' => ∃ (k nx clock : Nat) (es : List PlM) (s1 : StD) (H1 : Hp), k ≤ e.gone.length ∧ n < nx ∧ H1 id = some (.map (pmA es) clock) ∧ MapOk es clock ∧ Rel es s1 ∧ goneS s e.gone = goneS s1 (e.gone.drop k) ∧ H1 n = some (.cells (edCells e)) ∧ (∀ j, j < n → j ≠ id → H1 j = H j) ∧ m = e.gone.length - k ∧
    s' = ⟨[(1, .mp id), (2, .ptr n 0), (14, .sl (e.gone.map plH)), (15, .lit (.int .i64 (e.gone.length : Int))), (16, .lit (.int .i64 (k : Int)))], H1, nx⟩) _ [1, 2, 14, 15, 16] ⟨0, n + 1, clock, es, s, _, by omega, by omega, ?_, hmo, hrel, rfl, upd_same _ _ _, fr_upd (fun _ _ _ => rfl) (.inl (Nat.le_refl _)), rfl, rfl⟩ ?_
  · rw [upd_other (by omega)]; exact ho
  clear ho hmo hrel
  rintro m _ ⟨k, nx, clock, es, s1, H1, hk, hnx, ho, hmo, hrel, hgo, hb, hfr, rfl, rfl⟩
  have hne1 : (nx == id) = false := by rw [← Bool.not_eq_true, beq_iff_eq]; omega
  have hne2 : (nx + 1 == id) = false := by rw [← Bool.not_eq_true, beq_iff_eq]; omega
  by_cases h : k < e.gone.length
  · obtain ⟨p, hp⟩ : ∃ p, e.gone[k]? = some p := ⟨_, List.getElem?_eq_getElem h⟩
    have hpB : plB p = true := List.all_eq_true.1 hg p (List.mem_of_getElem? hp)
    have hw := wrap_nat (k := k) (by omega)
    rw [drop_cons hp] at hgo
    cases hlk : lookE es p with
    | none =>
      have hm : mfind (.agg [.lit (.int .i64 p.level), .lit (.int .i64 p.file)]) (pmA es) 0 = some none := mfind_no (vA := metaA) keyOk_pl hlk
      have hno := (rel_look hrel hpB).1 hlk
      simp only [push_cast, Nat.reduceBEq, Nat.reduceAdd, Nat.reduceEqDiff, reduceCtorEq, Nat.reduceLeDiff, Nat.reduceSub, Nat.reduceMul, Nat.reduceLT, Int.reduceEq, Int.reduceLT, Int.reduceLE, Int.reduceBEq, Int.reduceBNe, Int.reduceToNat, Int.reduceNeg, Int.reduceSub, Int.reduceAdd, h, hp, plH, hne1, hne2, ho, hm, nbq0_1 nx, nbq1_0 nx]
      have hc : swapCode s e = 7 := by unfold swapCode; rw [hgo, goneS_no hno]
      refine ⟨by rw [hc], by omega, fr_upd (fr_upd (fr_upd (fr_upd hfr (by omega)) (by omega)) (by omega)) (by omega), fun h0 => by rw [hc] at h0; cases h0⟩
    | some mt =>
      obtain ⟨i, x, hf1, hf2, hf3, hf4, hm⟩ := mfind_yes (vA := metaA) keyOk_pl hlk
      have hm' : mfind (.agg [.lit (.int .i64 p.level), .lit (.int .i64 p.file)]) (pmA es) 0 = some (some (i, .agg (metaH mt))) := hm
      have hyes : (withoutL (s1.lv p.level.toNat) p.file).length < (s1.lv p.level.toNat).length := Classical.byContradiction fun hc => by
        have := (rel_look hrel hpB).2 hc
        rw [hlk] at this; cases this
      rw [goneS_yes hyes] at hgo
      simp only [push_cast, Nat.reduceBEq, Nat.reduceAdd, Nat.reduceEqDiff, reduceCtorEq, Nat.reduceLeDiff, Nat.reduceSub, Nat.reduceMul, Nat.reduceLT, Int.reduceEq, Int.reduceLT, Int.reduceLE, Int.reduceBEq, Int.reduceBNe, Int.reduceToNat, Int.reduceNeg, Int.reduceSub, Int.reduceAdd, h, hp, plH, metaH, hne1, hne2, ho, hm', hw, pm_del, nbq0_1 nx, nbq1_0 nx]
      refine ⟨_, by omega, k + 1, nx + 1 + 1, clock, es.eraseIdx i, _, _, by omega, by omega, upd_same _ _ _, ?_, ?_, hgo, ?_, fr_upd (fr_upd (fr_upd (fr_upd (fr_upd hfr (by omega)) (by omega)) (by omega)) (by omega)) (by omega), rfl, rfl⟩
      · rw [← del_old hf1]; exact hmo.del p
      · rw [← del_old hf1]; exact hrel.gone hmo.keys hpB
      · rw [upd_other (by omega), upd_other (by omega), upd_other (by omega), upd_other (by omega), upd_other (by omega)]; exact hb
  · obtain rfl : k = e.gone.length := by omega
    rw [List.drop_length] at hgo
    have hg1 : goneS s e.gone = some s1 := hgo
    have hnlt : ¬ ((e.gone.length : Nat) : Int) < ((e.gone.length : Nat) : Int) := by omega
    simp only [push_cast, Nat.reduceBEq, Nat.reduceAdd, Nat.reduceEqDiff, reduceCtorEq, Nat.reduceLeDiff, Nat.reduceSub, Nat.reduceMul, Nat.reduceLT, Int.reduceEq, Int.reduceLT, Int.reduceLE, Int.reduceBEq, Int.reduceBNe, Int.reduceToNat, Int.reduceNeg, Int.reduceSub, Int.reduceAdd, hnlt, ho, hne1, nbq0_1 nx, nbq1_0 nx]
    refine loopK (fun m s' => ∃ (seen : List Nat) (nx2 idf iti fc : Nat) (fs : List FM) (H2 : Hp), n < idf ∧ n < iti ∧ idf < nx2 ∧ iti < nx2 ∧ idf ≠ iti ∧ H2 id = some (.map (pmA es) clock) ∧ H2 idf = some (.map (fmA fs) fc) ∧ MapOk fs fc ∧ FilesOf fs es seen ∧ H2 iti = some (.iter (some id) clock seen clock) ∧ H2 n = some (.cells (edCells e)) ∧ (∀ j, j < n → j ≠ id → H2 j = H j) ∧ m = (leftL es seen).length ∧
      s' = ⟨[(1, .mp id), (2, .ptr n 0), (9, .mp idf), (33, .ptr iti 0)], H2, nx2⟩) _ [1, 2, 9, 33] ⟨[], nx + 1 + 1, nx, nx + 1, 0, [], _, by omega, by omega, by omega, by omega, by omega, ?_, ?_, MapOk.nil, ?_, upd_same _ _ _, ?_, ?_, rfl, rfl⟩ ?_
    · rw [upd_other (by omega), upd_other (by omega)]; exact ho
    · rw [upd_other (by omega), upd_same]; rfl
    · intro f; simp [lookE]
    · rw [upd_other (by omega), upd_other (by omega)]; exact hb
    · exact fr_upd (fr_upd hfr (by omega)) (by omega)
    clear ho hb hfr hgo hne1 hne2 hnx
    rintro m _ ⟨seen, nx2, idf, iti, fc, fs, H2, hidf, hiti, hidf2, hiti2, hdiff, ho, hof, hfmo, hfil, hoi, hb, hfr, rfl, rfl⟩
    simp only [push_cast, Nat.reduceBEq, Nat.reduceAdd, Nat.reduceEqDiff, reduceCtorEq, Nat.reduceLeDiff, Nat.reduceSub, Nat.reduceMul, Nat.reduceLT, Int.reduceEq, Int.reduceLT, Int.reduceLE, Int.reduceBEq, Int.reduceBNe, Int.reduceToNat, Int.reduceNeg, Int.reduceSub, Int.reduceAdd, ho, hoi]
    refine nextK (borns_me hmo) (Nat.le_refl _) (fun hle => ?_) (fun x0 hx0 => ?_)
    · have hle' : leftL es seen = [] := by
        unfold pmA at hle
        rw [leftE_me] at hle
        exact List.map_eq_nil_iff.1 hle
      have hfa := files_all hfil hle' hrel
      clear hfil hle hle'
      simp only [push_cast, Nat.reduceBEq, Nat.reduceAdd, Nat.reduceEqDiff, reduceCtorEq, Nat.reduceLeDiff, Nat.reduceSub, Nat.reduceMul, Nat.reduceLT, Int.reduceEq, Int.reduceLT, Int.reduceLE, Int.reduceBEq, Int.reduceBNe, Int.reduceToNat, Int.reduceNeg, Int.reduceSub, Int.reduceAdd, hb, edCells]
      refine loopK (fun m s' => ∃ (k nx3 clock fc : Nat) (es : List PlM) (fs : List FM) (s2 : StD) (H3 : Hp), k ≤ e.new.length ∧ n < nx3 ∧ idf < nx3 ∧ H3 id = some (.map (pmA es) clock) ∧ MapOk es clock ∧ Rel es s2 ∧ H3 idf = some (.map (fmA fs) fc) ∧ MapOk fs fc ∧ (∀ f, (lookE fs f).isSome = true ↔ hasB s2 f = true) ∧ newS s1 e.new = newS s2 (e.new.drop k) ∧ (∀ j, j < n → j ≠ id → H3 j = H j) ∧ m = e.new.length - k ∧
        s' = ⟨[(1, .mp id), (9, .mp idf), (42, .sl (e.new.map addH)), (43, .lit (.int .i64 (e.new.length : Int))), (44, .lit (.int .i64 (k : Int)))], H3, nx3⟩) _ [1, 9, 42, 43, 44] ⟨0, nx2, clock, fc, es, fs, s1, H2, by omega, by omega, hidf2, ho, hmo, hrel, hof, hfmo, hfa, rfl, hfr, rfl, rfl⟩ ?_
      clear ho hmo hrel hof hfmo hfa hfr hoi hb hidf2 hiti2
      rintro m _ ⟨k, nx3, clock, fc, es, fs, s2, H3, hk, hnx3, hidf3, ho, hmo, hrel, hof, hfmo, hfa, hnew, hfr, rfl, rfl⟩
      have ne1 : (nx3 == id) = false := by rw [← Bool.not_eq_true, beq_iff_eq]; omega
      have ne2 : (nx3 == idf) = false := by rw [← Bool.not_eq_true, beq_iff_eq]; omega
      have ne3 : (idf == id) = false := by rw [← Bool.not_eq_true, beq_iff_eq]; omega
      have ne4 : (idf == nx3) = false := by rw [← Bool.not_eq_true, beq_iff_eq]; omega
      by_cases h : k < e.new.length
      · obtain ⟨a, ha⟩ : ∃ a, e.new[k]? = some a := ⟨_, List.getElem?_eq_getElem h⟩
        have haB : addB a = true := List.all_eq_true.1 hn a (List.mem_of_getElem? ha)
        have hw := wrap_nat (k := k) (by omega)
        rw [drop_cons ha] at hnew
        cases hlk : lookE fs a.t.file with
        | some u =>
          obtain ⟨i, y, hf1, hf2, hf3, hf4, hm⟩ := mfind_yes (vA := fV) keyOk_f hlk
          have hm' : mfind (.lit (.int .i64 a.t.file)) (fmA fs) 0 = some (some (i, .lit (.bool true))) := hm
          have hhas : hasB s2 a.t.file = true := (hfa _).1 (by rw [hlk]; rfl)
          rw [newS_no hhas] at hnew
          have hc : swapCode s e = 8 := by unfold swapCode; rw [hg1]; simp only [hnew]
          simp only [push_cast, Nat.reduceBEq, Nat.reduceAdd, Nat.reduceEqDiff, reduceCtorEq, Nat.reduceLeDiff, Nat.reduceSub, Nat.reduceMul, Nat.reduceLT, Int.reduceEq, Int.reduceLT, Int.reduceLE, Int.reduceBEq, Int.reduceBNe, Int.reduceToNat, Int.reduceNeg, Int.reduceSub, Int.reduceAdd, h, ha, addH, ne1, ne2, hof, hm']
          refine ⟨by rw [hc], by omega, fr_upd (fr_upd hfr (by omega)) (by omega), fun h0 => by rw [hc] at h0; cases h0⟩
        | none =>
          have hm : mfind (.lit (.int .i64 a.t.file)) (fmA fs) 0 = some none := mfind_no (vA := fV) keyOk_f hlk
          have hhas : hasB s2 a.t.file = false := by
            rw [← Bool.not_eq_true, ← hfa, hlk]; simp
          have hpn := rel_new_none hrel hhas
          have hm2 : mfind (.agg [.lit (.int .i64 a.level), .lit (.int .i64 a.t.file)]) (pmA es) 0 = some none := mfind_no (vA := metaA) keyOk_pl hpn
          rw [newS_yes hhas] at hnew
          simp only [push_cast, Nat.reduceBEq, Nat.reduceAdd, Nat.reduceEqDiff, reduceCtorEq, Nat.reduceLeDiff, Nat.reduceSub, Nat.reduceMul, Nat.reduceLT, Int.reduceEq, Int.reduceLT, Int.reduceLE, Int.reduceBEq, Int.reduceBNe, Int.reduceToNat, Int.reduceNeg, Int.reduceSub, Int.reduceAdd, h, ha, addH, ne1, ne2, ne3, ne4, hof, ho, hm, hm2, hw, fm_push, pm_push]
          refine ⟨_, by omega, k + 1, nx3 + 1, clock + 1, fc + 1, _, fs ++ [⟨a.t.file, (), fc⟩], _, _, by omega, by omega, by omega, upd_same _ _ _, ?_, hrel.new haB clock, ?_, ?_, ?_, hnew, fr_upd (fr_upd (fr_upd (fr_upd hfr (by omega)) (by omega)) (by omega)) (by omega), rfl, rfl⟩
          · have := hmo.put (⟨a.level, a.t.file⟩ : PlD) a.t
            rw [put_new a.t hpn] at this
            exact this
          · rw [upd_other (by omega), upd_same]
          · have := hfmo.put a.t.file ()
            rw [put_new () hlk] at this
            exact this
          · intro f
            have := lookE_put (es := fs) (clock := fc) a.t.file f ()
            rw [put_new () hlk] at this
            rw [this, has_with haB]
            by_cases hf : f = a.t.file
            · simp [hf]
            · rw [if_neg hf, hfa]; simp [hf]
      · obtain rfl : k = e.new.length := by omega
        rw [List.drop_length] at hnew
        have hg2 : newS s1 e.new = some s2 := hnew
        have hnlt : ¬ ((e.new.length : Nat) : Int) < ((e.new.length : Nat) : Int) := by omega
        have hlen : (pmA es).length = countS s2 := by unfold pmA; rw [List.length_map, hrel.count]
        by_cases hc : (1000 : Int) < (countS s2 : Int)
        · have hcode : swapCode s e = 14 := by unfold swapCode; rw [hg1]; simp only [hg2]; rw [if_pos (by omega)]
          simp only [push_cast, Nat.reduceBEq, Nat.reduceAdd, Nat.reduceEqDiff, reduceCtorEq, Nat.reduceLeDiff, Nat.reduceSub, Nat.reduceMul, Nat.reduceLT, Int.reduceEq, Int.reduceLT, Int.reduceLE, Int.reduceBEq, Int.reduceBNe, Int.reduceToNat, Int.reduceNeg, Int.reduceSub, Int.reduceAdd, hnlt, ho, hlen, hc, gt_iff_lt]
          exact ⟨by rw [hcode], by omega, hfr, fun h0 => by rw [hcode] at h0; cases h0⟩
        · have hcode : swapCode s e = 0 := by unfold swapCode; rw [hg1]; simp only [hg2]; rw [if_neg (by omega)]
          simp only [push_cast, Nat.reduceBEq, Nat.reduceAdd, Nat.reduceEqDiff, reduceCtorEq, Nat.reduceLeDiff, Nat.reduceSub, Nat.reduceMul, Nat.reduceLT, Int.reduceEq, Int.reduceLT, Int.reduceLE, Int.reduceBEq, Int.reduceBNe, Int.reduceToNat, Int.reduceNeg, Int.reduceSub, Int.reduceAdd, hnlt, ho, hlen, hc, gt_iff_lt]
          exact ⟨by rw [hcode], by omega, hfr, fun _ => ⟨s1, s2, es, clock, hg1, hg2, by omega, ho, hmo, hrel⟩⟩
    · unfold pmA at hx0
      rw [leftE_me] at hx0
      obtain ⟨x, hxl, rfl⟩ := List.mem_map.1 hx0
      clear hx0
      have hxm : x ∈ es := (List.mem_filter.1 hxl).1
      have hfb : (pmA es).find? (fun e => e.born == x.born) = some ⟨.agg [.lit (.int .i64 x.key.level), .lit (.int .i64 x.key.file)], .agg [.lit (.int .i64 x.val.file), .lit (.int .i64 x.val.size), .lit (.string x.val.first), .lit (.string x.val.last)], x.born⟩ := find_born (kA := plA) (vA := metaA) hmo.borns hxm
      have hll := left_len hmo.borns hxl
      have ne1 : (iti == id) = false := by rw [← Bool.not_eq_true, beq_iff_eq]; omega
      have ne2 : (nx2 == iti) = false := by rw [← Bool.not_eq_true, beq_iff_eq]; omega
      have ne3 : (nx2 == id) = false := by rw [← Bool.not_eq_true, beq_iff_eq]; omega
      have ne4 : (nx2 == idf) = false := by rw [← Bool.not_eq_true, beq_iff_eq]; omega
      have ne5 : (iti == idf) = false := by rw [← Bool.not_eq_true, beq_iff_eq]; omega
      have fin : ∀ (fs' : List FM) (fc' : Nat), putE fs fc x.key.file () = (fs', fc') → MapOk fs' fc' ∧ FilesOf fs' es (seen ++ [x.born]) := fun fs' fc' hp => by
        have h1 := hfmo.put x.key.file ()
        have h2 := files_put (fc := fc) hfil hxm hmo.borns
        rw [hp] at h1 h2
        exact ⟨h1, h2⟩
      cases hlk : lookE fs x.key.file with
      | none =>
        have hm : mfind (.lit (.int .i64 x.key.file)) (fmA fs) 0 = some none := mfind_no (vA := fV) keyOk_f hlk
        obtain ⟨f1, f2⟩ := fin _ _ (put_new () hlk)
        simp only [push_cast, Nat.reduceBEq, Nat.reduceAdd, Nat.reduceEqDiff, reduceCtorEq, Nat.reduceLeDiff, Nat.reduceSub, Nat.reduceMul, Nat.reduceLT, Int.reduceEq, Int.reduceLT, Int.reduceLE, Int.reduceBEq, Int.reduceBNe, Int.reduceToNat, Int.reduceNeg, Int.reduceSub, Int.reduceAdd, Ent.me, plA, plH, metaA, metaH, ho, hof, List.getLast?_concat, hfb, ne1, ne2, ne3, ne4, ne5, hm, fm_push]
        refine ⟨_, hll, seen ++ [x.born], nx2 + 1, idf, iti, _, _, _, by omega, by omega, by omega, by omega, by omega, ?_, upd_same _ _ _, f1, f2, ?_, ?_, fr_upd (fr_upd (fr_upd (fr_upd hfr (by omega)) (by omega)) (by omega)) (by omega), rfl, rfl⟩
        · rw [upd_other (by omega), upd_other (by omega), upd_other (by omega), upd_other (by omega)]; exact ho
        · rw [upd_other (by omega), upd_other (by omega), upd_other (by omega), upd_same]
        · rw [upd_other (by omega), upd_other (by omega), upd_other (by omega), upd_other (by omega)]; exact hb
      | some u =>
        obtain ⟨i, y, hf1, hf2, hf3, hf4, hm⟩ := mfind_yes (vA := fV) keyOk_f hlk
        have hm' : mfind (.lit (.int .i64 x.key.file)) (fmA fs) 0 = some (some (i, .lit (.bool true))) := hm
        have hfi : (fmA fs)[i]? = some ⟨.lit (.int .i64 y.key), .lit (.bool true), y.born⟩ := by unfold fmA; rw [List.getElem?_map, hf2]; rfl
        obtain ⟨f1, f2⟩ := fin _ _ (put_old () hf1 hf2)
        simp only [push_cast, Nat.reduceBEq, Nat.reduceAdd, Nat.reduceEqDiff, reduceCtorEq, Nat.reduceLeDiff, Nat.reduceSub, Nat.reduceMul, Nat.reduceLT, Int.reduceEq, Int.reduceLT, Int.reduceLE, Int.reduceBEq, Int.reduceBNe, Int.reduceToNat, Int.reduceNeg, Int.reduceSub, Int.reduceAdd, Ent.me, plA, plH, metaA, metaH, ho, hof, List.getLast?_concat, hfb, ne1, ne2, ne3, ne4, ne5, hm', hfi, fm_set]
        refine ⟨_, hll, seen ++ [x.born], nx2 + 1, idf, iti, _, _, _, by omega, by omega, by omega, by omega, by omega, ?_, upd_same _ _ _, f1, f2, ?_, ?_, fr_upd (fr_upd (fr_upd (fr_upd hfr (by omega)) (by omega)) (by omega)) (by omega), rfl, rfl⟩
        · rw [upd_other (by omega), upd_other (by omega), upd_other (by omega), upd_other (by omega)]; exact ho
        · rw [upd_other (by omega), upd_other (by omega), upd_other (by omega), upd_same]
        · rw [upd_other (by omega), upd_other (by omega), upd_other (by omega), upd_other (by omega)]; exact hb
end Go.Proofs.Ytheanmfdfoefoaa
