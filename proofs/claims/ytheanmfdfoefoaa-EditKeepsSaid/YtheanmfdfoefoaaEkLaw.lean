/- The law EditKeeps: its walk. -/
import Derived.Test.YtheanmfdfoefoaaEkTo
import Derived.Test.YtheanmfdfoefoaaEkAp

import Derived.Test.YtheanmfdfoefoaaEkWh
import Derived.Test.YtheanmfdfoefoaaEdLaws
import Derived.Test.YtheanmfdfoefoaaEkP
import Derived.Test.YtheanmfdfoefoaaHvShift
import Derived.Test.YtheanmfdfoefoaaHvCap
set_option linter.unusedVariables false
set_option linter.unusedSimpArgs false
namespace Go.Proofs.Ytheanmfdfoefoaa
open Go Go.RowKit Hv
theorem HCalls.seen {P : Program} {f : FuncId} {xs : List AV} {H : Hp} {n : Nat} {Post : AV → Hp → Nat → Prop} (h : HCalls P f (xs.map (AV.view H)) H n Post) : HCalls P f xs H n Post := by
  refine ⟨h.1, fun w F gb vs hok hl hr => h.2 w F gb vs hok (by rw [List.length_map]; exact hl) fun j x v hx hv => ?_⟩
  rw [List.getElem?_map, Option.map_eq_some_iff] at hx
  obtain ⟨y, hy, rfl⟩ := hx
  exact view_rep hok (hr j y v hy hv)
def inE (T : List AddD) : EdD := ⟨-1, -1, -1, [], T⟩
def inC (T : List AddD) (W : Nat) : List AV := [.lit (.int .i64 (-1)), .lit (.int .i64 (-1)), .lit (.int .i64 (-1)), .rw 3 2 0 0, .rc 4 5 T.length W]
theorem gk_noId (l : List AddD) (W k : Nat) : ∀ it ∈ gk l W k, ∀ c ∈ it, NoId c := by
  intro it hit
  rcases List.mem_append.1 hit with h | h
  · obtain ⟨x, _, rfl⟩ := List.mem_map.1 h; exact noId_add x
  · rw [List.eq_of_mem_replicate h]
    intro c hc
    simp only [za, List.mem_cons, List.not_mem_nil, or_false] at hc
    rcases hc with rfl | rfl | rfl | rfl | rfl <;> exact .lit _
/-- The law's memory. -/
structure EkF (T : List AddD) (W : Nat) (more : EdD) (s1 : StD) (a5 a6 a8 : Nat) (H : Hp) : Prop where
  h0 : H 0 = some (.cells (edCells more))
  h3 : H 3 = some (.row false 120 [])
  h4 : H 4 = some (.frz 93 (gk T W T.length))
  h5 : H a5 = some (.cells (inC T W))
  h6 : H a6 = some (.cells (stC s1))
  h8 : H a8 = some (.cells (stC s1))
  lt : 4 < a5 ∧ a5 < a6 ∧ a6 < a8
theorem EkF.keep {T : List AddD} {W : Nat} {more : EdD} {s1 : StD} {a5 a6 a8 : Nat} {H H' : Hp} (h : EkF T W more s1 a5 a6 a8 H) (hh : ∀ j, j ≤ a8 → H' j = H j) : EkF T W more s1 a5 a6 a8 H' := by
  obtain ⟨h0, h3, h4, h5, h6, h8, l1, l2, l3⟩ := h
  exact ⟨(hh 0 (by omega)).trans h0, (hh 3 (by omega)).trans h3, (hh 4 (by omega)).trans h4, (hh a5 (by omega)).trans h5, (hh a6 (by omega)).trans h6, (hh a8 (by omega)).trans h8, l1, l2, l3⟩
/-- The levels' rows, between two numbers. -/
def LvK (H : Hp) (lo hi : Nat) (f : Nat → AV) : Prop := (∀ i, i < 4 → f i = nilA ∨ ∃ (id : Nat) (L : List (List AV)), f i = .rw id 4 0 L.length ∧ lo < id ∧ id < hi ∧ H id = some (.row true 51 L) ∧ L.length ≤ 1000000 ∧ ∀ it ∈ L, it.length = 4) ∧ Apart f
theorem LvK.keep {H H' : Hp} {lo hi : Nat} {f : Nat → AV} (h : LvK H lo hi f) (hh : ∀ j, j < hi → H' j = H j) : LvK H' lo hi f := by
  refine ⟨fun i hi4 => ?_, h.2⟩
  rcases h.1 i hi4 with h1 | ⟨id, L, h1, h2, h3, h4, h5⟩
  · exact .inl h1
  · exact .inr ⟨id, L, h1, h2, h3, (hh id h3).trans h4, h5⟩
theorem lvK_one {H : Hp} {lo hi : Nat} {f : Nat → AV} (h : LvK H lo hi f) {i : Nat} (hi4 : i < 4) : AV.isOne (f i) = true := by
  rcases h.1 i hi4 with h1 | ⟨id, L, h1, _⟩ <;> rw [h1] <;> rfl
theorem lvK_of {H Hi : Hp} {n ni lo : Nat} {f : Nat → AV} (h : LvM Hi ni f) (hlo : lo < n) : LvK (besideH H n Hi) lo (n + ni) (fun i => (f i).sh n) := by
  refine ⟨fun i hi4 => ?_, fun i j a hi hj hx hy => ?_⟩
  · rcases h.1 i hi4 with h1 | ⟨id, L, h1, h2, h3, h4, h5⟩
    · exact .inl (by show (f i).sh n = nilA; rw [h1]; rfl)
    · refine .inr ⟨id + n, L, by show (f i).sh n = _; rw [h1]; rfl, by omega, by omega, ?_, h4, fun it hit => (h5 it hit).1⟩
      rw [beside_at h3]
      show some (AO.row true 51 (shLL n L)) = _
      rw [shLL_noId n fun it hit => (h5 it hit).2]
  · have key : ∀ i, i < 4 → ∀ a, idOf ((f i).sh n) = some a → idOf (f i) = some (a - n) := fun i hi a ha => by
      rcases h.1 i hi with h1 | ⟨id, L, h1, _⟩
      · rw [h1] at ha; cases ha
      · rw [h1] at ha ⊢
        have ha' : some (id + n) = some a := ha
        injection ha' with ha'
        show some id = some (a - n)
        congr 1; omega
    exact h.2 i j (a - n) hi hj (key i hi a hx) (key j hj a hy)
/-- The tables of the whole, between two numbers. -/
def NwK (H : Hp) (lo hi : Nat) (v : AV) : Prop := v = .lit (.slice none 0 0) ∨ ∃ (id : Nat) (L : List (List AV)), v = .rw id 5 0 L.length ∧ lo < id ∧ id < hi ∧ H id = some (.row true 93 L) ∧ L.length ≤ 4 * 100000 ∧ ∀ it ∈ L, it.length = 5
theorem NwK.keep {H H' : Hp} {lo hi : Nat} {v : AV} (h : NwK H lo hi v) (hh : ∀ j, j < hi → H' j = H j) : NwK H' lo hi v := by
  rcases h with h1 | ⟨id, L, h1, h2, h3, h4, h5⟩
  · exact .inl h1
  · exact .inr ⟨id, L, h1, h2, h3, (hh id h3).trans h4, h5⟩
theorem nwK_one {H : Hp} {lo hi : Nat} {v : AV} (h : NwK H lo hi v) : AV.isOne v = true := by
  rcases h with rfl | ⟨id, L, rfl, _⟩ <;> rfl
theorem nwK_of {H Hi : Hp} {n ni lo : Nat} {v : AV} (h : v = .lit (.slice none 0 0) ∨ ∃ (id : Nat) (L : List (List AV)), v = .rw id 5 0 L.length ∧ id < ni ∧ Hi id = some (.row true 93 L) ∧ L.length ≤ 4 * 100000 ∧ ∀ it ∈ L, it.length = 5 ∧ ∀ c ∈ it, NoId c) (hlo : lo < n) : NwK (besideH H n Hi) lo (n + ni) (v.sh n) := by
  rcases h with rfl | ⟨id, L, rfl, h2, h3, h4, h5⟩
  · exact .inl rfl
  · refine .inr ⟨id + n, L, rfl, by omega, by omega, ?_, h4, fun it hit => (h5 it hit).1⟩
    rw [beside_at h3]
    show some (AO.row true 93 (shLL n L)) = _
    rw [shLL_noId n fun it hit => (h5 it hit).2]
def idsK (f : Nat → AV) (i : Nat) : Nat := match f i with | .rw id _ _ _ => id | _ => 0
def lenK (f : Nat → AV) (i : Nat) : Nat := match f i with | .rw _ _ _ len => len | _ => 0
def capK (f : Nat → AV) (cp : Nat → Nat) (i : Nat) : Nat := match f i with | .rw _ _ _ _ => cp (i + 3) | _ => 0
/-- A level's row, and its room. -/
def LvC (H : Hp) (lo hi id c : Nat) : Prop := c = 0 ∨ (lo < id ∧ id < hi ∧ c ≤ maxLen ∧ ∃ L : List (List AV), H id = some (.row true 51 L) ∧ L.length ≤ c ∧ ∀ it ∈ L, it.length = 4)
theorem lvC_of {H : Hp} {lo hi : Nat} {f : Nat → AV} {cp : Nat → Nat} (h : LvK H lo hi f) (hc : ∀ i, i < 4 → capOk (cp (i + 3)) (f i)) {i : Nat} (hi4 : i < 4) : withCapN 4 (cp (i + 3)) (f i) = .rc (idsK f i) 4 (lenK f i) (capK f cp i) ∧ LvC H lo hi (idsK f i) (capK f cp i) := by
  have hci := hc i hi4
  unfold idsK lenK capK
  rcases h.1 i hi4 with h1 | ⟨id, L, h1, h2, h3, h4, h5, h6⟩
  · rw [h1]; exact ⟨rfl, .inl rfl⟩
  · rw [h1] at hci ⊢
    exact ⟨rfl, .inr ⟨h2, h3, hci.2, L, h4, hci.1, h6⟩⟩
theorem lvC_ne {H : Hp} {lo hi : Nat} {f : Nat → AV} {cp : Nat → Nat} (h : LvK H lo hi f) {i j : Nat} (hi4 : i < 4) (hj4 : j < 4) (hij : i ≠ j) (h0 : capK f cp i ≠ 0) (h1 : capK f cp j ≠ 0) : idsK f j ≠ idsK f i := by
  intro e
  unfold capK at h0 h1
  unfold idsK at e
  rcases h.1 i hi4 with a1 | ⟨id, L, a1, _⟩
  · rw [a1] at h0; exact h0 rfl
  · rcases h.1 j hj4 with b1 | ⟨id', L', b1, _⟩
    · rw [b1] at h1; exact h1 rfl
    · rw [a1, b1] at e
      have e' : id' = id := e
      exact hij (h.2 i j id hi4 hj4 (by rw [a1]; rfl) (by rw [b1, e']; rfl))
theorem LvC.keep {H H' : Hp} {lo hi id c : Nat} (h : LvC H lo hi id c) (hh : c ≠ 0 → H' id = H id) : LvC H' lo hi id c := by
  rcases h with h | ⟨h1, h2, h3, L, h4, h5⟩
  · exact .inl h
  · by_cases hc : c = 0
    · exact .inl hc
    · exact .inr ⟨h1, h2, h3, L, (hh hc).trans h4, h5⟩
theorem EkF.other {T : List AddD} {W : Nat} {more : EdD} {s1 : StD} {a5 a6 a8 id : Nat} {H : Hp} (h : EkF T W more s1 a5 a6 a8 H) {H' : Hp} (hid : a8 < id) (hh : ∀ j, j ≠ id → H' j = H j) : EkF T W more s1 a5 a6 a8 H' := h.keep fun j hj => hh j (by omega)
set_option maxRecDepth 20000 in
set_option maxHeartbeats 16000000 in
theorem EditKeeps_h (tables : List AddD) (more : EdD) : Hv.ACalls Try.prog 10 [.sl (tables.map addH), edH more] (.lit (.bool true)) := by
  refine acallsC_of (rs := [.tmp 4]) ⟨[0, 1, 3, 4, 5, 6, 7, 8, 9, 11, 12, 13, 14, 15, 16, 17, 19, 46, 59, 75, 86, 107, 115], [], [], [(8, [(0, [], []), (1, [], []), (2, [0], [1]), (3, [], [0, 2, 1]), (4, [], []), (5, [], []), (6, [], []), (7, [0, 1], []), (8, [], [7, 5, 3, 0, 1, 2, 4]), (9, [], [6, 8, 0, 1, 2, 3, 4, 5, 7])]), (13, [(0, [], []), (1, [], []), (2, [], []), (3, [], []), (4, [], []), (5, [], []), (6, [], []), (7, [], []), (8, [], []), (9, [], []), (10, [], [9, 0, 1, 2, 3, 4, 5, 6, 7, 8])]), (28, [(0, [], []), (2, [], []), (1, [2], [0]), (3, [], [1, 2, 0]), (4, [], []), (5, [], []), (7, [], []), (8, [], []), (9, [], []), (10, [], []), (11, [], []), (12, [], []), (6, [9], [5, 4, 3, 1, 2, 0]), (13, [], [6, 12, 4, 5, 11, 3, 7, 10, 1, 2, 9, 0, 8]), (14, [], []), (15, [], [14, 13, 0, 1, 2, 3, 4, 5, 6, 7, 8, 9, 10, 11, 12])])], [4,8,9,10,18,22], []⟩ TOk mixed Try.func10 rfl rfl (by kernel_rfl) (by kernel_rfl) rfl (nid2 (noId_adds tables) (noId_ed more)) (.lit _) ?_
  obtain ⟨T, hT⟩ : ∃ T, tables.take 20 = T := ⟨_, rfl⟩
  have hTl : T.length ≤ 20 := by rw [← hT]; exact List.length_take_le _ _
  obtain ⟨Z, hZ, hZl, hZT⟩ : ∃ Z : Nat, (if (20 : Int) < (tables.length : Int) then (20 : Int) else (tables.length : Int)) = (Z : Int) ∧ Z ≤ tables.length ∧ tables.take Z = T := by
    by_cases h : (20 : Int) < (tables.length : Int)
    · exact ⟨20, by rw [if_pos h]; rfl, by omega, hT⟩
    · exact ⟨tables.length, by rw [if_neg h], Nat.le_refl _, by rw [List.take_length, ← hT, List.take_of_length_le (by omega)]⟩
  obtain ⟨W, hW⟩ : ∃ W, W = T.length + 2 := ⟨_, rfl⟩
  have hmt : (tables.map addH).take Z = T.map addH := by rw [← List.map_take, hZT]
  have addl : ∀ x : AddD, (addH x).length = 5 := fun _ => rfl
  simp only [push_cast, Nat.reduceBEq, Nat.reduceAdd, Nat.reduceEqDiff, reduceCtorEq, Nat.reduceLeDiff, Nat.reduceSub, Nat.reduceMul, Nat.reduceLT, Int.reduceEq, Int.reduceLT, Int.reduceLE, Int.reduceBEq, Int.reduceBNe, Int.reduceToNat, Int.reduceNeg, Int.reduceSub, Int.reduceAdd, edH]
  refine callK edits_h ?_
  simp only [push_cast, Nat.reduceBEq, Nat.reduceAdd, Nat.reduceEqDiff, reduceCtorEq, Nat.reduceLeDiff, Nat.reduceSub, Nat.reduceMul, Nat.reduceLT, Int.reduceEq, Int.reduceLT, Int.reduceLE, Int.reduceBEq, Int.reduceBNe, Int.reduceToNat, Int.reduceNeg, Int.reduceSub, Int.reduceAdd]
  refine cutG (fun st => ∃ (H : Hp) (a5 n : Nat), 4 < a5 ∧ a5 < n ∧ H 0 = some (.cells (edCells more)) ∧ H 3 = some (.row false 120 []) ∧ H 4 = some (.row true 93 (gk T W T.length)) ∧ H a5 = some (.cells (inC T W)) ∧ st = ⟨[(0, .sl (tables.map addH)), (3, .ptr 0 0), (5, .ptr a5 0)], H, n⟩) [0, 3, 5] ?_ ?_
  · simp only [push_cast, Nat.reduceBEq, Nat.reduceAdd, Nat.reduceEqDiff, reduceCtorEq, Nat.reduceLeDiff, Nat.reduceSub, Nat.reduceMul, Nat.reduceLT, Int.reduceEq, Int.reduceLT, Int.reduceLE, Int.reduceBEq, Int.reduceBNe, Int.reduceToNat, Int.reduceNeg, Int.reduceSub, Int.reduceAdd, hZ, hZl, hmt, addl]
    refine callH (HCalls.seen (by simp only [push_cast, Nat.reduceBEq, Nat.reduceAdd, Nat.reduceEqDiff, reduceCtorEq, Nat.reduceLeDiff, Nat.reduceSub, Nat.reduceMul, Nat.reduceLT, Int.reduceEq, Int.reduceLT, Int.reduceLE, Int.reduceBEq, Int.reduceBNe, Int.reduceToNat, Int.reduceNeg, Int.reduceSub, Int.reduceAdd]; exact hcalls_beside (nid1 (noId_ed (inE T))) (toM_h (inE T) rfl (by show T.length ≤ 1000000; omega) W hW))) ?_
    rintro _ _ _ ⟨r0, Hi, ni, ⟨hr0, hi3, hi2, hni⟩, rfl, rfl, rfl⟩
    subst hr0
    have q3 := beside_at (H := upd (fun _ => none) 0 (some (.cells (edCells more)))) (n := 1) hi3
    have q2 := beside_at (H := upd (fun _ => none) 0 (some (.cells (edCells more)))) (n := 1) hi2
    have q0 : besideH (upd (fun _ => none) 0 (some (.cells (edCells more)))) 1 Hi 0 = some (.cells (edCells more)) := by rw [beside_lt (by decide)]; rfl
    have q3' : besideH (upd (fun _ => none) 0 (some (.cells (edCells more)))) 1 Hi 4 = some (.row true 93 (gk T W T.length)) := by
      rw [q3]
      show some (AO.row true 93 (shLL 1 (gk T W T.length))) = _
      rw [shLL_noId 1 (gk_noId _ _ _)]
    have q2' : besideH (upd (fun _ => none) 0 (some (.cells (edCells more)))) 1 Hi 3 = some (.row false 120 []) := q2
    clear q3 q2 hi3 hi2
    unfold edCells at q0 q2' q3'
    simp only [push_cast, Nat.reduceBEq, Nat.reduceAdd, Nat.reduceEqDiff, reduceCtorEq, Nat.reduceLeDiff, Nat.reduceSub, Nat.reduceMul, Nat.reduceLT, Int.reduceEq, Int.reduceLT, Int.reduceLE, Int.reduceBEq, Int.reduceBNe, Int.reduceToNat, Int.reduceNeg, Int.reduceSub, Int.reduceAdd, AV.sh, shL]
    refine ⟨_, 1 + ni, 1 + ni + 1, by omega, by omega, ?_, ?_, ?_, upd_same _ _ _, rfl⟩
    · rw [upd_other (by omega), upd_other (by omega)]; exact q0
    · rw [upd_other (by omega), upd_other (by omega)]; exact q2'
    · rw [upd_other (by omega), upd_other (by omega)]; exact q3'
  rintro _ ⟨H, a5, n, hl5, hn5, h0, h3, h4, h5, rfl⟩
  refine gh_shut (id := 4) (m := true) (e := 93) (items := gk T W T.length) h4 (by intro e; have := congrArg List.length e; rw [gk_len (Nat.le_refl _) (by omega)] at this; simp at this; omega) ?_
  simp only [AS.chg]
  generalize hH2 : upd H 4 (some (.frz 93 (gk T W T.length))) = H2
  have g0 : H2 0 = some (.cells (edCells more)) := by rw [← hH2, upd_other (by decide)]; exact h0
  have g3 : H2 3 = some (.row false 120 []) := by rw [← hH2, upd_other (by decide)]; exact h3
  have g4 : H2 4 = some (.frz 93 (gk T W T.length)) := by rw [← hH2]; exact upd_same _ _ _
  have g5 : H2 a5 = some (.cells (inC T W)) := by rw [← hH2, upd_other (by omega)]; exact h5
  clear hH2 h0 h3 h4 h5 H
  obtain ⟨B, hB⟩ : ∃ B, gk T W T.length = B := ⟨_, rfl⟩
  have hBl : B.length = W := by rw [← hB]; exact gk_len (Nat.le_refl _) (by omega)
  have hBt : B.take T.length = T.map addH := by
    rw [← hB]; unfold gk; rw [List.take_length]; exact List.take_left' (by simp)
  have hBb : Nat.ble T.length B.length = true := by rw [hBl]; exact Nat.ble_eq_true_of_le (by omega)
  have hB0 : ∀ k, T.length ≤ k → k < W → B[k]? = some za := fun k h1 h2 => by
    rw [← hB]; unfold gk
    rw [List.take_length, List.getElem?_append_right (by simpa using h1), List.length_map, List.getElem?_replicate, if_pos (by omega)]
  rw [hB] at g4
  obtain ⟨s1, c1, hs1⟩ : ∃ s1 c1, docApply emptyS (inE T) = (s1, c1) := ⟨_, _, rfl⟩
  have k1 := apply_h emptyS (inE T) empty_wf0 (fun i _ => by simp [emptyS])
  rw [hs1] at k1
  have g5' := g5
  unfold inC at g5
  simp only [push_cast, Nat.reduceBEq, Nat.reduceAdd, Nat.reduceEqDiff, reduceCtorEq, Nat.reduceLeDiff, Nat.reduceSub, Nat.reduceMul, Nat.reduceLT, Int.reduceEq, Int.reduceLT, Int.reduceLE, Int.reduceBEq, Int.reduceBNe, Int.reduceToNat, Int.reduceNeg, Int.reduceSub, Int.reduceAdd, g5]
  refine callK (by simp only [push_cast, Nat.reduceBEq, Nat.reduceAdd, Nat.reduceEqDiff, reduceCtorEq, Nat.reduceLeDiff, Nat.reduceSub, Nat.reduceMul, Nat.reduceLT, Int.reduceEq, Int.reduceLT, Int.reduceLE, Int.reduceBEq, Int.reduceBNe, Int.reduceToNat, Int.reduceNeg, Int.reduceSub, Int.reduceAdd, g3, g4, hBb, hBt, List.take_nil]; exact k1) ?_
  have g0' := g0
  unfold edCells at g0
  have e1 : (n == 0) = false := neB (by omega)
  by_cases hc : c1 = 0
  case neg =>
    have he : (c1 != 0) = true := by simpa using hc
    simp only [push_cast, Nat.reduceBEq, Nat.reduceAdd, Nat.reduceEqDiff, reduceCtorEq, Nat.reduceLeDiff, Nat.reduceSub, Nat.reduceMul, Nat.reduceLT, Int.reduceEq, Int.reduceLT, Int.reduceLE, Int.reduceBEq, Int.reduceBNe, Int.reduceToNat, Int.reduceNeg, Int.reduceSub, Int.reduceAdd, stH, he, g0, e1]
  case pos =>
  subst hc
  have hd0 : (docApply emptyS (inE T)).2 = 0 := by rw [hs1]
  have hw1 : Wf0 s1 := by have := docApply_wf0 empty_wf0 hd0; rwa [hs1] at this
  have hlv : ∀ n, n < 4 → (s1.lv n).length ≤ 1000 := by have := @docApply_lens emptyS (inE T); rwa [hs1] at this
  have he : ((0 : Int) != 0) = false := rfl
  by_cases hg1 : (100 : Int) < (more.gone.length : Int)
  case pos => simp only [push_cast, Nat.reduceBEq, Nat.reduceAdd, Nat.reduceEqDiff, reduceCtorEq, Nat.reduceLeDiff, Nat.reduceSub, Nat.reduceMul, Nat.reduceLT, Int.reduceEq, Int.reduceLT, Int.reduceLE, Int.reduceBEq, Int.reduceBNe, Int.reduceToNat, Int.reduceNeg, Int.reduceSub, Int.reduceAdd, stH, he, g0, e1, hg1, gt_iff_lt]
  by_cases hg2 : (100 : Int) < (more.new.length : Int)
  case pos => simp only [push_cast, Nat.reduceBEq, Nat.reduceAdd, Nat.reduceEqDiff, reduceCtorEq, Nat.reduceLeDiff, Nat.reduceSub, Nat.reduceMul, Nat.reduceLT, Int.reduceEq, Int.reduceLT, Int.reduceLE, Int.reduceBEq, Int.reduceBNe, Int.reduceToNat, Int.reduceNeg, Int.reduceSub, Int.reduceAdd, stH, he, g0, e1, hg1, hg2, gt_iff_lt]
  have k2 := state_h s1 (fun i hi => Nat.le_trans (hlv i hi) (by decide))
  have k3 := to_h more (by omega) (by omega)
  unfold stH at k2
  simp only [push_cast, Nat.reduceBEq, Nat.reduceAdd, Nat.reduceEqDiff, reduceCtorEq, Nat.reduceLeDiff, Nat.reduceSub, Nat.reduceMul, Nat.reduceLT, Int.reduceEq, Int.reduceLT, Int.reduceLE, Int.reduceBEq, Int.reduceBNe, Int.reduceToNat, Int.reduceNeg, Int.reduceSub, Int.reduceAdd, stH, he, g0, e1, hg1, hg2, gt_iff_lt]
  refine cutK (fun st => ∃ (H : Hp) (a6 a8 m : Nat), EkF T W more s1 a5 a6 a8 H ∧ a8 < m ∧ st = ⟨[(0, .sl (tables.map addH)), (3, .ptr 0 0), (5, .ptr a5 0), (6, .ptr a6 0), (8, .ptr a8 0)], H, m⟩) [0, 3, 5, 6, 8] ?_ ?_
  · simp only [push_cast, Nat.reduceBEq, Nat.reduceAdd, Nat.reduceEqDiff, reduceCtorEq, Nat.reduceLeDiff, Nat.reduceSub, Nat.reduceMul, Nat.reduceLT, Int.reduceEq, Int.reduceLT, Int.reduceLE, Int.reduceBEq, Int.reduceBNe, Int.reduceToNat, Int.reduceNeg, Int.reduceSub, Int.reduceAdd]
    refine callK k2 ?_
    simp only [push_cast, Nat.reduceBEq, Nat.reduceAdd, Nat.reduceEqDiff, reduceCtorEq, Nat.reduceLeDiff, Nat.reduceSub, Nat.reduceMul, Nat.reduceLT, Int.reduceEq, Int.reduceLT, Int.reduceLE, Int.reduceBEq, Int.reduceBNe, Int.reduceToNat, Int.reduceNeg, Int.reduceSub, Int.reduceAdd]
    refine ⟨_, n, n + 1, n + 1 + 1, ⟨?_, ?_, ?_, ?_, ?_, upd_same _ _ _, by omega, by omega, by omega⟩, by omega, rfl⟩
    · (repeat rw [upd_other (by omega)]); exact g0'
    · (repeat rw [upd_other (by omega)]); exact g3
    · (repeat rw [upd_other (by omega)]); rw [hB]; exact g4
    · (repeat rw [upd_other (by omega)]); exact g5'
    · (repeat rw [upd_other (by omega)]); exact upd_same _ _ _
  clear g0 g0' g3 g4 g5 g5' k2 H2 hn5
  rintro _ ⟨H, a6, a8, m, hF, hm, rfl⟩
  refine cutK (fun st => ∃ (H : Hp) (a9 m : Nat) (x y z : Int) (f : Nat → AV), EkF T W more s1 a5 a6 a8 H ∧ a8 < a9 ∧ a9 < m ∧ H a9 = some (.cells [.lit (.int .i64 x), .lit (.int .i64 y), .lit (.int .i64 z), f 0, f 1, f 2, f 3]) ∧ LvK H a8 a9 f ∧
    st = ⟨[(0, .sl (tables.map addH)), (5, .ptr a5 0), (6, .ptr a6 0), (8, .ptr a8 0), (9, .ptr a9 0)], H, m⟩) [0, 5, 6, 8, 9] ?_ ?_
  · have h0 := hF.h0
    have h6 := hF.h6
    unfold edCells at h0
    unfold stC at h6
    unfold edH at k3
    simp only [push_cast, Nat.reduceBEq, Nat.reduceAdd, Nat.reduceEqDiff, reduceCtorEq, Nat.reduceLeDiff, Nat.reduceSub, Nat.reduceMul, Nat.reduceLT, Int.reduceEq, Int.reduceLT, Int.reduceLE, Int.reduceBEq, Int.reduceBNe, Int.reduceToNat, Int.reduceNeg, Int.reduceSub, Int.reduceAdd, h0, h6]
    refine callD k3 ?_
    simp only [push_cast, Nat.reduceBEq, Nat.reduceAdd, Nat.reduceEqDiff, reduceCtorEq, Nat.reduceLeDiff, Nat.reduceSub, Nat.reduceMul, Nat.reduceLT, Int.reduceEq, Int.reduceLT, Int.reduceLE, Int.reduceBEq, Int.reduceBNe, Int.reduceToNat, Int.reduceNeg, Int.reduceSub, Int.reduceAdd, h0, h6]
    have k4 := hcalls_beside (H := H) (n := m) (nid2 (noId_st s1) (noId_ed more)) (applyM_h s1 more hw1 (fun i hi => Nat.le_trans (hlv i hi) (by decide)))
    unfold stH edH at k4
    refine callHD (HCalls.seen (by exact k4)) ?_
    rintro _ _ _ ⟨r0, Hi, ni, ⟨x, y, z, code, f, rfl, hlm⟩, rfl, rfl, rfl⟩
    have hF2 := hF.keep (H' := besideH H m Hi) fun j hj => beside_lt (by omega)
    have hL2 := lvK_of (H := H) (n := m) (lo := a8) hlm hm
    have w0 := lvK_one hL2 (i := 0) (by decide)
    have w1 := lvK_one hL2 (i := 1) (by decide)
    have w2 := lvK_one hL2 (i := 2) (by decide)
    have w3 := lvK_one hL2 (i := 3) (by decide)
    simp only [AV.isOne, Value.oneCell'] at w0 w1 w2 w3
    have b0 := hF2.h0
    have b6 := hF2.h6
    unfold edCells at b0
    unfold stC at b6
    have c0 : (m + ni == 0) = false := neB (by omega)
    have c6 : (m + ni == a6) = false := neB (by have := hF2.lt; omega)
    simp only [push_cast, Nat.reduceBEq, Nat.reduceAdd, Nat.reduceEqDiff, reduceCtorEq, Nat.reduceLeDiff, Nat.reduceSub, Nat.reduceMul, Nat.reduceLT, Int.reduceEq, Int.reduceLT, Int.reduceLE, Int.reduceBEq, Int.reduceBNe, Int.reduceToNat, Int.reduceNeg, Int.reduceSub, Int.reduceAdd, AV.sh, shL, w0, w1, w2, w3, b0, b6, c0, c6]
    refine ⟨_, m + ni, m + ni + 1, x, y, z, fun i => (f i).sh m, hF2.keep fun j hj => ?_, by omega, by omega, upd_same _ _ _, hL2.keep fun j hj => ?_, rfl⟩
    · rw [upd_other (by omega), upd_other (by omega)]
    · rw [upd_other (by omega), upd_other (by omega)]
  clear hF hm H
  rintro _ ⟨H, a9, m, x, y, z, f, hF, h89, h9m, h9, hLv, rfl⟩
  refine cutG (fun st => ∃ (H : Hp) (a11 m : Nat) (p q u : Int) (v : AV), EkF T W more s1 a5 a6 a8 H ∧ a9 < a11 ∧ a11 < m ∧ H a9 = some (.cells [.lit (.int .i64 x), .lit (.int .i64 y), .lit (.int .i64 z), f 0, f 1, f 2, f 3]) ∧ LvK H a8 a9 f ∧
    H a11 = some (.cells [.lit (.int .i64 p), .lit (.int .i64 q), .lit (.int .i64 u), .lit (.slice none 0 0), v]) ∧ NwK H a9 a11 v ∧
    st = ⟨[(0, .sl (tables.map addH)), (5, .ptr a5 0), (6, .ptr a6 0), (8, .ptr a8 0), (9, .ptr a9 0), (11, .ptr a11 0)], H, m⟩) [0, 5, 6, 8, 9, 11] ?_ ?_
  · have h6 := hF.h6
    unfold stC at h6
    have k5 := hcalls_beside (H := H) (n := m) (nid1 (noId_st s1)) (wholeW_h s1 (fun i hi => Nat.le_trans (hlv i hi) (by decide)))
    unfold stH at k5
    simp only [push_cast, Nat.reduceBEq, Nat.reduceAdd, Nat.reduceEqDiff, reduceCtorEq, Nat.reduceLeDiff, Nat.reduceSub, Nat.reduceMul, Nat.reduceLT, Int.reduceEq, Int.reduceLT, Int.reduceLE, Int.reduceBEq, Int.reduceBNe, Int.reduceToNat, Int.reduceNeg, Int.reduceSub, Int.reduceAdd, h6]
    refine callH (HCalls.seen (by exact k5)) ?_
    rintro _ _ _ ⟨r0, Hi, ni, ⟨p, q, u, v, rfl, hv⟩, rfl, rfl, rfl⟩
    have hF2 := hF.keep (H' := besideH H m Hi) fun j hj => beside_lt (by omega)
    have hv2 := nwK_of (H := H) (n := m) (lo := a9) hv h9m
    have w0 := nwK_one hv2
    simp only [AV.isOne, Value.oneCell'] at w0
    simp only [push_cast, Nat.reduceBEq, Nat.reduceAdd, Nat.reduceEqDiff, reduceCtorEq, Nat.reduceLeDiff, Nat.reduceSub, Nat.reduceMul, Nat.reduceLT, Int.reduceEq, Int.reduceLT, Int.reduceLE, Int.reduceBEq, Int.reduceBNe, Int.reduceToNat, Int.reduceNeg, Int.reduceSub, Int.reduceAdd, AV.sh, shL, w0]
    refine ⟨_, m + ni, m + ni + 1, p, q, u, v.sh m, hF2.keep fun j hj => ?_, by omega, by omega, ?_, (hLv.keep (H' := besideH H m Hi) fun j hj => beside_lt (by omega)).keep fun j hj => ?_, upd_same _ _ _, hv2.keep fun j hj => ?_, rfl⟩
    · rw [upd_other (by omega), upd_other (by omega)]
    · rw [upd_other (by omega), upd_other (by omega), beside_lt h9m]; exact h9
    · rw [upd_other (by omega), upd_other (by omega)]
    · rw [upd_other (by omega), upd_other (by omega)]
  clear hF h9 hLv h9m m H
  rintro _ ⟨H, a11, m, p, q, u, v, hF, h911, h11m, h9, hLv, h11, hNv, rfl⟩
  refine gh_capn (id := a9) 4 h9 ?_
  intro cp hcp
  have hcap : ∀ i, i < 4 → capOk (cp (i + 3)) (f i) := fun i hi => hcp (i + 3) (f i) (by
    obtain rfl | rfl | rfl | rfl : i = 0 ∨ i = 1 ∨ i = 2 ∨ i = 3 := by omega
    all_goals rfl)
  obtain ⟨ids, hids⟩ : ∃ ids, idsK f = ids := ⟨_, rfl⟩
  obtain ⟨lens, hlens⟩ : ∃ lens, lenK f = lens := ⟨_, rfl⟩
  obtain ⟨cs, hcs⟩ : ∃ cs, capK f cp = cs := ⟨_, rfl⟩
  have hRC : ∀ i, i < 4 → withCapN 4 (cp (i + 3)) (f i) = .rc (ids i) 4 (lens i) (cs i) ∧ LvC H a8 a9 (ids i) (cs i) := fun i hi => by
    rw [← hids, ← hlens, ← hcs]; exact lvC_of hLv hcap hi
  have hne : ∀ i j, i < 4 → j < 4 → i ≠ j → cs i ≠ 0 → cs j ≠ 0 → ids j ≠ ids i := fun i j hi hj hij => by
    rw [← hids, ← hcs]; exact lvC_ne hLv hi hj hij
  have hcells : ([.lit (.int .i64 x), .lit (.int .i64 y), .lit (.int .i64 z), f 0, f 1, f 2, f 3] : List AV).mapIdx (fun j x => withCapN 4 (cp j) x) = [.lit (.int .i64 x), .lit (.int .i64 y), .lit (.int .i64 z), .rc (ids 0) 4 (lens 0) (cs 0), .rc (ids 1) 4 (lens 1) (cs 1), .rc (ids 2) 4 (lens 2) (cs 2), .rc (ids 3) 4 (lens 3) (cs 3)] := by
    rw [← (hRC 0 (by decide)).1, ← (hRC 1 (by decide)).1, ← (hRC 2 (by decide)).1, ← (hRC 3 (by decide)).1]
    rfl
  have hLC : ∀ i, i < 4 → LvC H a8 a9 (ids i) (cs i) := fun i hi => (hRC i hi).2
  rw [hcells]
  clear hRC hcells hids hlens hcs hcap hcp
  simp only [AS.chg]
  generalize hH2 : upd H a9 (some (.cells [.lit (.int .i64 x), .lit (.int .i64 y), .lit (.int .i64 z), .rc (ids 0) 4 (lens 0) (cs 0), .rc (ids 1) 4 (lens 1) (cs 1), .rc (ids 2) 4 (lens 2) (cs 2), .rc (ids 3) 4 (lens 3) (cs 3)])) = H2
  have hFo := hF.lt
  have F2 : EkF T W more s1 a5 a6 a8 H2 := hF.keep fun j hj => by rw [← hH2, upd_other (by omega)]
  have c9 : H2 a9 = some (.cells [.lit (.int .i64 x), .lit (.int .i64 y), .lit (.int .i64 z), .rc (ids 0) 4 (lens 0) (cs 0), .rc (ids 1) 4 (lens 1) (cs 1), .rc (ids 2) 4 (lens 2) (cs 2), .rc (ids 3) 4 (lens 3) (cs 3)]) := by rw [← hH2]; exact upd_same _ _ _
  have c11 : H2 a11 = some (.cells [.lit (.int .i64 p), .lit (.int .i64 q), .lit (.int .i64 u), .lit (.slice none 0 0), v]) := by rw [← hH2, upd_other (by omega)]; exact h11
  have N2 : NwK H2 a9 a11 v := by
    rcases hNv with h1 | ⟨id, L, h1, h2, h3, h4, h5⟩
    · exact .inl h1
    · exact .inr ⟨id, L, h1, h2, h3, by rw [← hH2, upd_other (by omega)]; exact h4, h5⟩
  have L2 : ∀ i, i < 4 → LvC H2 a8 a9 (ids i) (cs i) := fun i hi => by
    rcases hLC i hi with h | ⟨h1, h2, h3, L, h4, h5⟩
    · exact .inl h
    · exact .inr ⟨h1, h2, h3, L, by rw [← hH2, upd_other (by omega)]; exact h4, h5⟩
  have hdrop : ∀ i, i < 4 → ∃ r, ([.lit (.int .i64 x), .lit (.int .i64 y), .lit (.int .i64 z), .rc (ids 0) 4 (lens 0) (cs 0), .rc (ids 1) 4 (lens 1) (cs 1), .rc (ids 2) 4 (lens 2) (cs 2), .rc (ids 3) 4 (lens 3) (cs 3)] : List AV).drop (3 + i) = .rc (ids i) 4 (lens i) (cs i) :: r := fun i hi => by
    obtain rfl | rfl | rfl | rfl : i = 0 ∨ i = 1 ∨ i = 2 ∨ i = 3 := by omega
    all_goals exact ⟨_, rfl⟩
  clear hH2 hF h9 hLv h11 hNv hLC H
  refine cutK (fun st => ∃ (H : Hp), EkF T W more s1 a5 a6 a8 H ∧ H a11 = some (.cells [.lit (.int .i64 p), .lit (.int .i64 q), .lit (.int .i64 u), .lit (.slice none 0 0), v]) ∧ NwK H a9 a11 v ∧ st = ⟨[(0, .sl (tables.map addH)), (5, .ptr a5 0), (6, .ptr a6 0), (8, .ptr a8 0), (11, .ptr a11 0)], H, m⟩) [0, 5, 6, 8, 11] ?_ ?_
  · simp only [push_cast, Nat.reduceBEq, Nat.reduceAdd, Nat.reduceEqDiff, reduceCtorEq, Nat.reduceLeDiff, Nat.reduceSub, Nat.reduceMul, Nat.reduceLT, Int.reduceEq, Int.reduceLT, Int.reduceLE, Int.reduceBEq, Int.reduceBNe, Int.reduceToNat, Int.reduceNeg, Int.reduceSub, Int.reduceAdd]
    refine loopK (fun n st => ∃ (i : Nat) (H : Hp), i ≤ 4 ∧ EkF T W more s1 a5 a6 a8 H ∧ H a9 = some (.cells [.lit (.int .i64 x), .lit (.int .i64 y), .lit (.int .i64 z), .rc (ids 0) 4 (lens 0) (cs 0), .rc (ids 1) 4 (lens 1) (cs 1), .rc (ids 2) 4 (lens 2) (cs 2), .rc (ids 3) 4 (lens 3) (cs 3)]) ∧ H a11 = some (.cells [.lit (.int .i64 p), .lit (.int .i64 q), .lit (.int .i64 u), .lit (.slice none 0 0), v]) ∧ NwK H a9 a11 v ∧ (∀ j, i ≤ j → j < 4 → LvC H a8 a9 (ids j) (cs j)) ∧ n = 4 - i ∧
      st = ⟨[(0, .sl (tables.map addH)), (5, .ptr a5 0), (6, .ptr a6 0), (8, .ptr a8 0), (9, .ptr a9 0), (11, .ptr a11 0), (12, .lit (.int .i64 i))], H, m⟩) _ [0, 5, 6, 8, 9, 11, 12] ⟨0, H2, Nat.zero_le _, F2, c9, c11, N2, fun j _ hj => L2 j hj, rfl, rfl⟩ ?_
    clear F2 c9 c11 N2 L2 H2
    rintro n _ ⟨i, H, hi, hF, h9, h11, hNv, hLC, rfl, rfl⟩
    by_cases h : i < 4
    · have hi4 : (i : Int) < 4 := by omega
      have hw := wrap_nat (k := i) (by omega)
      obtain ⟨r, hr⟩ := hdrop i h
      have hI := hLC i (Nat.le_refl _) h
      simp only [push_cast, Nat.reduceBEq, Nat.reduceAdd, Nat.reduceEqDiff, reduceCtorEq, Nat.reduceLeDiff, Nat.reduceSub, Nat.reduceMul, Nat.reduceLT, Int.reduceEq, Int.reduceLT, Int.reduceLE, Int.reduceBEq, Int.reduceBNe, Int.reduceToNat, Int.reduceNeg, Int.reduceSub, Int.reduceAdd, hi4, h, h9, hr, Int.le_refl]
      refine loopK (fun n st => ∃ (k : Nat) (H' : Hp), k ≤ cs i ∧ (cs i ≠ 0 → ∃ L' : List (List AV), H' (ids i) = some (.row true 51 L') ∧ k ≤ L'.length ∧ L'.length ≤ cs i ∧ ∀ it ∈ L', it.length = 4) ∧ (∀ j, (cs i = 0 ∨ j ≠ ids i) → H' j = H j) ∧ n = cs i - k ∧
        st = ⟨[(0, .sl (tables.map addH)), (5, .ptr a5 0), (6, .ptr a6 0), (8, .ptr a8 0), (9, .ptr a9 0), (11, .ptr a11 0), (12, .lit (.int .i64 i)), (13, .rc (ids i) 4 (cs i) (cs i)), (14, .lit (.int .i64 k))], H', m⟩) _ [0, 5, 6, 8, 9, 11, 12, 13, 14] ⟨0, H, Nat.zero_le _, fun h0 => by
          rcases hI with h1 | ⟨h1, h2, h3, L, h4, h5, h6⟩
          · exact absurd h1 h0
          · exact ⟨L, h4, Nat.zero_le _, h5, h6⟩, fun _ _ => rfl, rfl, rfl⟩ ?_
      rintro n _ ⟨k, H', hk, hL', hHo, rfl, rfl⟩
      have hcm : cs i ≤ 9223372036854775807 := by
        rcases hI with h1 | ⟨h1, h2, h3, _⟩
        · omega
        · exact h3
      by_cases hkc : k < cs i
      · obtain ⟨L', g1, g2, g3, g4⟩ := hL' (by omega)
        have hwk := Hv.wrap_up (k := k) (by omega)
        by_cases hkL : k < L'.length
        · obtain ⟨it, hit⟩ : ∃ it, L'[k]? = some it := ⟨_, List.getElem?_eq_getElem hkL⟩
          have hil := g4 it (List.mem_of_getElem? hit)
          have hbl : Nat.blt k L'.length = true := Nat.ble_eq_true_of_le hkL
          simp only [push_cast, Nat.reduceBEq, Nat.reduceAdd, Nat.reduceEqDiff, reduceCtorEq, Nat.reduceLeDiff, Nat.reduceSub, Nat.reduceMul, Nat.reduceLT, Int.reduceEq, Int.reduceLT, Int.reduceLE, Int.reduceBEq, Int.reduceBNe, Int.reduceToNat, Int.reduceNeg, Int.reduceSub, Int.reduceAdd, hkc, g1, hbl, hit, hil, hwk]
          refine ⟨_, by omega, k + 1, _, by omega, fun _ => ⟨_, upd_same _ _ _, by rw [List.length_set]; omega, by rw [List.length_set]; omega, fun it' hm' => ?_⟩, fun j hj => by rw [upd_other (by rcases hj with hj | hj <;> omega)]; exact hHo j hj, rfl, rfl⟩
          rcases List.mem_or_eq_of_mem_set hm' with hm' | hm'
          · exact g4 it' hm'
          · rw [hm']; simp [hil]
        · have hkL2 : L'.length = k := by omega
          have hbl : Nat.blt k k = false := by rw [← Bool.not_eq_true]; intro h'; exact absurd (Nat.le_of_ble_eq_true h') (by omega)
          simp only [push_cast, Nat.reduceBEq, Nat.reduceAdd, Nat.reduceEqDiff, reduceCtorEq, Nat.reduceLeDiff, Nat.reduceSub, Nat.reduceMul, Nat.reduceLT, Int.reduceEq, Int.reduceLT, Int.reduceLE, Int.reduceBEq, Int.reduceBNe, Int.reduceToNat, Int.reduceNeg, Int.reduceSub, Int.reduceAdd, hkc, g1, hkL2, hbl, hwk]
          refine ⟨_, by omega, k + 1, _, by omega, fun _ => ⟨_, upd_same _ _ _, by rw [List.length_append]; simp; omega, by rw [List.length_append]; simp; omega, fun it' hm' => ?_⟩, fun j hj => by rw [upd_other (by rcases hj with hj | hj <;> omega)]; exact hHo j hj, rfl, rfl⟩
          rcases List.mem_append.1 hm' with hm' | hm'
          · exact g4 it' hm'
          · rw [List.mem_singleton.1 hm']; rfl
      · obtain rfl : k = cs i := by omega
        simp only [push_cast, Nat.reduceBEq, Nat.reduceAdd, Nat.reduceEqDiff, reduceCtorEq, Nat.reduceLeDiff, Nat.reduceSub, Nat.reduceMul, Nat.reduceLT, Int.reduceEq, Int.reduceLT, Int.reduceLE, Int.reduceBEq, Int.reduceBNe, Int.reduceToNat, Int.reduceNeg, Int.reduceSub, Int.reduceAdd, hkc, hw]
        have hid : cs i ≠ 0 → a8 < ids i ∧ ids i < a9 := fun h0 => by
          rcases hI with h1 | ⟨h1, h2, _⟩
          · exact absurd h1 h0
          · exact ⟨h1, h2⟩
        have hsame : ∀ j, (j ≤ a8 ∨ a9 ≤ j) → H' j = H j := fun j hj => hHo j (by
          by_cases h0 : cs i = 0
          · exact .inl h0
          · have := hid h0; right; omega)
        refine ⟨_, by omega, i + 1, H', by omega, hF.keep fun j hj => hsame j (.inl hj), (hsame a9 (.inr (Nat.le_refl _))).trans h9, (hsame a11 (.inr (by omega))).trans h11, ?_, fun j hj hj4 => (hLC j (by omega) hj4).keep fun h0 => hHo _ ?_, rfl, rfl⟩
        · rcases hNv with h1 | ⟨id, L, h1, h2, h3, h4, h5⟩
          · exact .inl h1
          · exact .inr ⟨id, L, h1, h2, h3, (hsame id (.inr (by omega))).trans h4, h5⟩
        · by_cases h1 : cs i = 0
          · exact .inl h1
          · exact .inr (hne i j h hj4 (by omega) h1 h0)
    · obtain rfl : i = 4 := by omega
      have h44 : ¬ ((4 : Nat) : Int) < 4 := by omega
      simp only [push_cast, Nat.reduceBEq, Nat.reduceAdd, Nat.reduceEqDiff, reduceCtorEq, Nat.reduceLeDiff, Nat.reduceSub, Nat.reduceMul, Nat.reduceLT, Int.reduceEq, Int.reduceLT, Int.reduceLE, Int.reduceBEq, Int.reduceBNe, Int.reduceToNat, Int.reduceNeg, Int.reduceSub, Int.reduceAdd, h44]
      exact ⟨H, hF, h11, hNv, rfl⟩
  clear F2 c9 c11 N2 L2 H2 hdrop hne
  rintro _ ⟨H, hF, h11, hNv, rfl⟩
  refine cutK (fun st => ∃ (H : Hp), EkF T W more s1 a5 a6 a8 H ∧ st = ⟨[(0, .sl (tables.map addH)), (5, .ptr a5 0), (6, .ptr a6 0), (8, .ptr a8 0)], H, m⟩) [0, 5, 6, 8] ?_ ?_
  · simp only [push_cast, Nat.reduceBEq, Nat.reduceAdd, Nat.reduceEqDiff, reduceCtorEq, Nat.reduceLeDiff, Nat.reduceSub, Nat.reduceMul, Nat.reduceLT, Int.reduceEq, Int.reduceLT, Int.reduceLE, Int.reduceBEq, Int.reduceBNe, Int.reduceToNat, Int.reduceNeg, Int.reduceSub, Int.reduceAdd]
    rcases hNv with rfl | ⟨id, L, rfl, h2, h3, h4, h5, h6⟩
    · refine loopK (fun n st => n = 0 ∧ st = ⟨[(0, .sl (tables.map addH)), (5, .ptr a5 0), (6, .ptr a6 0), (8, .ptr a8 0), (11, .ptr a11 0), (15, .lit (.int .i64 0))], H, m⟩) _ [0, 5, 6, 8, 11, 15] ⟨rfl, rfl⟩ ?_
      rintro n _ ⟨rfl, rfl⟩
      simp only [push_cast, Nat.reduceBEq, Nat.reduceAdd, Nat.reduceEqDiff, reduceCtorEq, Nat.reduceLeDiff, Nat.reduceSub, Nat.reduceMul, Nat.reduceLT, Int.reduceEq, Int.reduceLT, Int.reduceLE, Int.reduceBEq, Int.reduceBNe, Int.reduceToNat, Int.reduceNeg, Int.reduceSub, Int.reduceAdd, h11, Int.lt_irrefl]
      exact ⟨H, hF, rfl⟩
    · refine loopK (fun n st => ∃ (i : Nat) (L' : List (List AV)) (H' : Hp), i ≤ L.length ∧ L'.length = L.length ∧ (∀ it ∈ L', it.length = 5) ∧ H' id = some (.row true 93 L') ∧ (∀ j, j ≠ id → H' j = H j) ∧ n = L.length - i ∧
        st = ⟨[(0, .sl (tables.map addH)), (5, .ptr a5 0), (6, .ptr a6 0), (8, .ptr a8 0), (11, .ptr a11 0), (15, .lit (.int .i64 i))], H', m⟩) _ [0, 5, 6, 8, 11, 15] ⟨0, L, H, Nat.zero_le _, rfl, h6, h4, fun _ _ => rfl, rfl, rfl⟩ ?_
      rintro n _ ⟨i, L', H', hi, hl', h4', hH2, hHo, rfl, rfl⟩
      have h11' := (hHo a11 (by omega)).trans h11
      by_cases h : i < L.length
      · obtain ⟨it, hit⟩ : ∃ it, L'[i]? = some it := ⟨_, List.getElem?_eq_getElem (by omega)⟩
        have hil : it.length = 5 := h4' it (List.mem_of_getElem? hit)
        have hw := wrap_nat (k := i) (by omega)
        simp only [push_cast, Nat.reduceBEq, Nat.reduceAdd, Nat.reduceEqDiff, reduceCtorEq, Nat.reduceLeDiff, Nat.reduceSub, Nat.reduceMul, Nat.reduceLT, Int.reduceEq, Int.reduceLT, Int.reduceLE, Int.reduceBEq, Int.reduceBNe, Int.reduceToNat, Int.reduceNeg, Int.reduceSub, Int.reduceAdd, h, h11', hit, hil, hH2, hw]
        refine ⟨_, by omega, i + 1, _, _, by omega, ?_, ?_, upd_same _ _ _, fun j hj2 => by rw [upd_other (fun e => hj2 e.symm)]; exact hHo j hj2, rfl, rfl⟩
        · rw [List.length_set]; exact hl'
        · intro it' hm
          rcases List.mem_or_eq_of_mem_set hm with hm | hm
          · exact h4' it' hm
          · rw [hm]; simp [hil]
      · obtain rfl : i = L.length := by omega
        simp only [push_cast, Nat.reduceBEq, Nat.reduceAdd, Nat.reduceEqDiff, reduceCtorEq, Nat.reduceLeDiff, Nat.reduceSub, Nat.reduceMul, Nat.reduceLT, Int.reduceEq, Int.reduceLT, Int.reduceLE, Int.reduceBEq, Int.reduceBNe, Int.reduceToNat, Int.reduceNeg, Int.reduceSub, Int.reduceAdd, h, h11']
        exact ⟨H', hF.keep fun j hj => hHo j (by omega), rfl⟩
  clear hF h11 hNv H
  rintro _ ⟨H, hF, rfl⟩
  have h5 := hF.h5
  have h4 := hF.h4
  have h3 := hF.h3
  have h6 := hF.h6
  have h8 := hF.h8
  rw [hB] at h4
  unfold inC at h5
  unfold stC at h6 h8
  have hbT : T.length ≤ W := by omega
  have hBg : B.take W = B := List.take_of_length_le (by omega)
  have hBG : Nat.ble W B.length = true := by rw [hBl]; exact Nat.ble_self_eq_true W
  simp only [push_cast, Nat.reduceBEq, Nat.reduceAdd, Nat.reduceEqDiff, reduceCtorEq, Nat.reduceLeDiff, Nat.reduceSub, Nat.reduceMul, Nat.reduceLT, Int.reduceEq, Int.reduceLT, Int.reduceLE, Int.reduceBEq, Int.reduceBNe, Int.reduceToNat, Int.reduceNeg, Int.reduceSub, Int.reduceAdd, h5, Int.le_refl]
  refine loopK (fun n st => ∃ (i : Nat), T.length ≤ i ∧ i ≤ W ∧ n = W - i ∧ st = ⟨[(0, .sl (tables.map addH)), (5, .ptr a5 0), (6, .ptr a6 0), (8, .ptr a8 0), (16, .rc 4 5 W W), (17, .lit (.int .i64 i))], H, m⟩) _ [0, 5, 6, 8, 16, 17] ⟨T.length, Nat.le_refl _, hbT, rfl, rfl⟩ ?_
  rintro n _ ⟨i, hi, hiW, rfl, rfl⟩
  by_cases h : i < W
  · have hw := wrap_nat (k := i) (by omega)
    have hat := hB0 i hi h
    unfold za at hat
    simp only [push_cast, Nat.reduceBEq, Nat.reduceAdd, Nat.reduceEqDiff, reduceCtorEq, Nat.reduceLeDiff, Nat.reduceSub, Nat.reduceMul, Nat.reduceLT, Int.reduceEq, Int.reduceLT, Int.reduceLE, Int.reduceBEq, Int.reduceBNe, Int.reduceToNat, Int.reduceNeg, Int.reduceSub, Int.reduceAdd, h, h4, hBG, hBg, hat, hw]
    exact ⟨_, by omega, i + 1, by omega, by omega, rfl, rfl⟩
  · obtain rfl : i = W := by omega
    have k6 := Same_refl s1 (fun i hi => Nat.le_trans (hlv i hi) (by decide))
    have k7 := from_h (inE T) (by simp [inE]) (by show T.length ≤ 1000000; omega)
    have k8 := SameEdit_refl (inE T) (by simp [inE]) (by show T.length ≤ 1000000; omega)
    have k9 := state_h s1 (fun i hi => Nat.le_trans (hlv i hi) (by decide))
    unfold stH at k6 k9
    simp only [push_cast, Nat.reduceBEq, Nat.reduceAdd, Nat.reduceEqDiff, reduceCtorEq, Nat.reduceLeDiff, Nat.reduceSub, Nat.reduceMul, Nat.reduceLT, Int.reduceEq, Int.reduceLT, Int.reduceLE, Int.reduceBEq, Int.reduceBNe, Int.reduceToNat, Int.reduceNeg, Int.reduceSub, Int.reduceAdd, h, h6, h8]
    refine callD k9 ?_
    simp only [push_cast, Nat.reduceBEq, Nat.reduceAdd, Nat.reduceEqDiff, reduceCtorEq, Nat.reduceLeDiff, Nat.reduceSub, Nat.reduceMul, Nat.reduceLT, Int.reduceEq, Int.reduceLT, Int.reduceLE, Int.reduceBEq, Int.reduceBNe, Int.reduceToNat, Int.reduceNeg, Int.reduceSub, Int.reduceAdd, h5, h6, h8]
    refine callD k6 ?_
    simp only [push_cast, Nat.reduceBEq, Nat.reduceAdd, Nat.reduceEqDiff, reduceCtorEq, Nat.reduceLeDiff, Nat.reduceSub, Nat.reduceMul, Nat.reduceLT, Int.reduceEq, Int.reduceLT, Int.reduceLE, Int.reduceBEq, Int.reduceBNe, Int.reduceToNat, Int.reduceNeg, Int.reduceSub, Int.reduceAdd, h5, h6, h8, hZ, hZl, hmt, addl]
    refine callD (by simp only [push_cast, Nat.reduceBEq, Nat.reduceAdd, Nat.reduceEqDiff, reduceCtorEq, Nat.reduceLeDiff, Nat.reduceSub, Nat.reduceMul, Nat.reduceLT, Int.reduceEq, Int.reduceLT, Int.reduceLE, Int.reduceBEq, Int.reduceBNe, Int.reduceToNat, Int.reduceNeg, Int.reduceSub, Int.reduceAdd, h3, h4, hBb, hBt, List.take_nil]; exact k7) ?_
    simp only [push_cast, Nat.reduceBEq, Nat.reduceAdd, Nat.reduceEqDiff, reduceCtorEq, Nat.reduceLeDiff, Nat.reduceSub, Nat.reduceMul, Nat.reduceLT, Int.reduceEq, Int.reduceLT, Int.reduceLE, Int.reduceBEq, Int.reduceBNe, Int.reduceToNat, Int.reduceNeg, Int.reduceSub, Int.reduceAdd, h5, h6, h8, hZ, hZl, hmt, addl, edH]
    refine callD k8 ?_
    simp only [push_cast, Nat.reduceBEq, Nat.reduceAdd, Nat.reduceEqDiff, reduceCtorEq, Nat.reduceLeDiff, Nat.reduceSub, Nat.reduceMul, Nat.reduceLT, Int.reduceEq, Int.reduceLT, Int.reduceLE, Int.reduceBEq, Int.reduceBNe, Int.reduceToNat, Int.reduceNeg, Int.reduceSub, Int.reduceAdd, h5, h6, h8, hZ, hZl, hmt, addl]
end Go.Proofs.Ytheanmfdfoefoaa
