/- Edit: Apply, whose answer's rows may be written in. -/
import Derived.Test.YtheanmfdfoefoaaEdApply
namespace Go.Proofs.Ytheanmfdfoefoaa
open Go Go.RowKit Hv
set_option linter.unusedVariables false
set_option linter.unusedSimpArgs false
/-- A state whose rows are its own: numbers, and four rows (or none). -/
def LvM (H : Hp) (n : Nat) (f : Nat → AV) : Prop := (∀ i, i < 4 → f i = nilA ∨ ∃ (id : Nat) (L : List (List AV)), f i = .rw id 4 0 L.length ∧ id < n ∧ H id = some (.row true 51 L) ∧ L.length ≤ 1000000 ∧ ∀ it ∈ L, it.length = 4 ∧ ∀ c ∈ it, NoId c) ∧ Apart f
def ApM (r : AV) (H : Hp) (n : Nat) : Prop := ∃ (a b c code : Int) (f : Nat → AV), r = .tup [.agg [.lit (.int .i64 a), .lit (.int .i64 b), .lit (.int .i64 c), f 0, f 1, f 2, f 3], .lit (.int .i64 code)] ∧ LvM H n f
theorem apM_none {H : Hp} {n : Nat} (code : Int) : ApM (.tup [.agg [.lit (.int .i64 0), .lit (.int .i64 0), .lit (.int .i64 0), .lit (.slice none 0 0), .lit (.slice none 0 0), .lit (.slice none 0 0), .lit (.slice none 0 0)], .lit (.int .i64 code)]) H n :=
  ⟨0, 0, 0, code, fun _ => nilA, rfl, fun i _ => .inl rfl, fun i j a _ _ h => by cases h⟩
theorem Rows.keep2 {H : Hp} {lo hi : Nat} {f : Nat → AV} {L : Nat → List MetaD} {oo : Option AO} (h : Rows H lo hi f L) (h4 : 4 ≤ lo) : Rows (upd H 2 oo) lo hi f L := by
  refine ⟨fun j hj => ?_, h.apart⟩
  rcases h.row j hj with h1 | ⟨id, h1, h2, h3, h5⟩
  · exact .inl h1
  · exact .inr ⟨id, h1, by rw [upd_other (by omega)]; exact h2, h3, h5⟩
theorem few_lvK {s : StD} (h : countS s ≤ 1000) : ∀ n, n < 4 → (s.lv n).length ≤ 1000 := by
  intro n hn
  unfold countS at h
  obtain rfl | rfl | rfl | rfl : n = 0 ∨ n = 1 ∨ n = 2 ∨ n = 3 := by omega
  all_goals omega
theorem noId_meta (m : MetaD) : ∀ c ∈ metaH m, NoId c := by
  intro c hc
  simp only [metaH, List.mem_cons, List.not_mem_nil, or_false] at hc
  rcases hc with rfl | rfl | rfl | rfl <;> exact .lit _
theorem apM_rows {H : Hp} {lo hi : Nat} {f : Nat → AV} {L : Nat → List MetaD} {a b c code : Int} (h : Rows H lo hi f L) (hl : ∀ i, i < 4 → (L i).length ≤ 1000000) : ApM (.tup [.agg [.lit (.int .i64 a), .lit (.int .i64 b), .lit (.int .i64 c), f 0, f 1, f 2, f 3], .lit (.int .i64 code)]) H hi := by
  refine ⟨a, b, c, code, f, rfl, fun i hi4 => ?_, h.apart⟩
  rcases h.row i hi4 with ⟨h1, _⟩ | ⟨id, h1, h2, h3, h5⟩
  · exact .inl h1
  · refine .inr ⟨id, (L i).map metaH, by rw [h1, List.length_map], h5, h2, by rw [List.length_map]; exact hl i hi4, fun it hit => ?_⟩
    obtain ⟨m, _, rfl⟩ := List.mem_map.1 hit
    exact ⟨rfl, noId_meta m⟩
set_option maxRecDepth 20000 in
set_option maxHeartbeats 16000000 in
theorem applyM_h (s : StD) (e : EdD) (g : Wf0 s) (hl : ∀ i, i < 4 → (s.lv i).length ≤ 1000000) : HCalls Try.prog 31 [stH s, edH e] (fun _ => none) 0 ApM := by
  refine hcallsC_of (rs := [.cell 4 33, .tmp 5]) ⟨[0, 1, 2, 3, 4, 5, 6, 8, 9, 10, 11, 12, 13, 16, 37, 38, 39, 52, 71, 75, 77, 93, 94, 102], [90], [], [(7, [(0, [], []), (1, [], []), (2, [], []), (3, [], []), (4, [], []), (5, [], []), (6, [], []), (7, [], []), (8, [], []), (9, [], []), (10, [], []), (11, [], [])]), (9, [(0, [], []), (1, [], []), (2, [], []), (3, [], []), (4, [], []), (5, [], []), (6, [], []), (7, [], []), (8, [], []), (9, [], []), (10, [], [9, 8, 0, 1, 2, 3, 4, 5, 6, 7])]), (18, [(0, [], []), (1, [], []), (2, [], []), (3, [], []), (4, [], []), (5, [], []), (6, [], []), (7, [], []), (8, [], []), (10, [], []), (9, [1], [6, 8, 5, 7, 4, 3, 2]), (11, [], []), (12, [], [11, 9, 0, 1, 2, 3, 4, 5, 6, 7, 8, 10])])], [], []⟩ TOk mixed Try.func31 rfl rfl (by kernel_rfl) (by kernel_rfl) rfl ?_
  simp only [push_cast, Nat.reduceBEq, Nat.reduceAdd, Nat.reduceEqDiff, reduceCtorEq, Nat.reduceLeDiff, Nat.reduceSub, Nat.reduceMul, Nat.reduceLT, Int.reduceEq, Int.reduceLT, Int.reduceLE, Int.reduceBEq, Int.reduceBNe, Int.reduceToNat, Int.reduceNeg, Int.reduceSub, Int.reduceAdd, edH, stH]
  refine callK (edRight_h e) ?_
  cases hr : rightB e with
  | false =>
    have hd : docApply s e = (noS, 2) := by unfold docApply; rw [if_pos hr]
    simp only [push_cast, Nat.reduceBEq, Nat.reduceAdd, Nat.reduceEqDiff, reduceCtorEq, Nat.reduceLeDiff, Nat.reduceSub, Nat.reduceMul, Nat.reduceLT, Int.reduceEq, Int.reduceLT, Int.reduceLE, Int.reduceBEq, Int.reduceBNe, Int.reduceToNat, Int.reduceNeg, Int.reduceSub, Int.reduceAdd, hd, noS]
    exact apM_none _
  | true =>
    obtain ⟨n1, n2, n3, hgl, hnl, hga, hna⟩ := right_nums hr
    obtain ⟨p1, p2, p3⟩ := g.num
    simp only [push_cast, Nat.reduceBEq, Nat.reduceAdd, Nat.reduceEqDiff, reduceCtorEq, Nat.reduceLeDiff, Nat.reduceSub, Nat.reduceMul, Nat.reduceLT, Int.reduceEq, Int.reduceLT, Int.reduceLE, Int.reduceBEq, Int.reduceBNe, Int.reduceToNat, Int.reduceNeg, Int.reduceSub, Int.reduceAdd]
    refine loopK (NumInv s e) _ [2, 3, 4, 6, 37, 38] ⟨0, 4, _, by omega, by omega, ⟨by omega, by omega, by omega⟩, ?_, ?_, ?_, ?_, rfl, rfl⟩ ?_
    · rfl
    · rfl
    · rfl
    · rfl
    rintro m _ ⟨k, nx, H1, hk, hnx, hok, ho0, ho1, ho2, ho3, rfl, rfl⟩
    by_cases h : k < 3
    · have hne : (nx == 3) = false := by rw [← Bool.not_eq_true, beq_iff_eq]; omega
      have hne3 : (3 == nx) = false := by rw [← Bool.not_eq_true, beq_iff_eq]; omega
      have hne2 : (nx == 2) = false := by rw [← Bool.not_eq_true, beq_iff_eq]; omega
      have hne4 : True := trivial
      obtain rfl | rfl | rfl : k = 0 ∨ k = 1 ∨ k = 2 := by omega
      · have e0 : numTo s e 0 = (s.log, s.next, s.seq) := rfl
        rw [e0] at ho3
        have hmx := told_max p1 n1
        by_cases hlow : 0 ≤ e.log ∧ e.log < s.log
        · have hd : docApply s e = (noS, 1) := by
            unfold docApply
            rw [if_neg (by rw [hr]; simp), if_pos ?_]
            cases hb : badB s e with
            | true => rfl
            | false => exact absurd hlow ((bad_iff.1 hb).1 (by omega))
          have b1 : (e.log != -1) = true := by rw [bne_iff_ne]; omega
          have b2 := hlow.2
          simp only [push_cast, Nat.reduceBEq, Nat.reduceAdd, Nat.reduceEqDiff, reduceCtorEq, Nat.reduceLeDiff, Nat.reduceSub, Nat.reduceMul, Nat.reduceLT, Int.reduceEq, Int.reduceLT, Int.reduceLE, Int.reduceBEq, Int.reduceBNe, Int.reduceToNat, Int.reduceNeg, Int.reduceSub, Int.reduceAdd, ho0, ho1, ho2, ho3, nmC, hne, hne3, hne2, b1, b2, hd, noS, zeroC, nilA]
          exact apM_none _
        · have hst : ∀ H2 : Hp, (∀ j, j < 3 → H2 j = H1 j) → H2 3 = some (.cells (nmC (told e.log s.log) s.next s.seq fun _ => nilA)) → ∃ m, m < 3 - 0 ∧ NumInv s e m ⟨[(2, .ptr 0 0), (3, .ptr 1 0), (4, .ptr 2 0), (6, .ptr 3 0), (37, .agg [.ptr 3 0, .lit (.int .i64 e.log), .ptr 3 1, .lit (.int .i64 e.next), .ptr 3 2, .lit (.int .i64 e.seq)]), (38, .lit (.int .i64 1))], H2, nx + 1⟩ := fun H2 h1 h2 =>
            ⟨_, (by omega : 3 - 1 < 3 - 0), 1, nx + 1, H2, by omega, by omega, ⟨fun _ => hlow, fun h => by omega, fun h => by omega⟩, (h1 0 (by omega)).trans ho0, (h1 1 (by omega)).trans ho1, (h1 2 (by omega)).trans ho2, h2, rfl, rfl⟩
          have hmx := hmx hlow
          cases b1 : (e.log != -1) with
          | true =>
            have hne1 : e.log ≠ -1 := by simpa using b1
            have b2 : ¬ e.log < s.log := fun h => hlow ⟨by omega, h⟩
            simp only [push_cast, Nat.reduceBEq, Nat.reduceAdd, Nat.reduceEqDiff, reduceCtorEq, Nat.reduceLeDiff, Nat.reduceSub, Nat.reduceMul, Nat.reduceLT, Int.reduceEq, Int.reduceLT, Int.reduceLE, Int.reduceBEq, Int.reduceBNe, Int.reduceToNat, Int.reduceNeg, Int.reduceSub, Int.reduceAdd, ho3, nmC, hne, hne3, hne4, hmx, b1, b2, Int.reduceAdd, wr0]
            refine hst _ (fun j hj => ?_) (upd_same _ _ _)
            rw [upd_other (by omega), upd_other (by omega), upd_other (by omega)]
          | false =>
            simp only [push_cast, Nat.reduceBEq, Nat.reduceAdd, Nat.reduceEqDiff, reduceCtorEq, Nat.reduceLeDiff, Nat.reduceSub, Nat.reduceMul, Nat.reduceLT, Int.reduceEq, Int.reduceLT, Int.reduceLE, Int.reduceBEq, Int.reduceBNe, Int.reduceToNat, Int.reduceNeg, Int.reduceSub, Int.reduceAdd, ho3, nmC, hne, hne3, hne4, hmx, b1, Int.reduceAdd, wr0]
            refine hst _ (fun j hj => ?_) (upd_same _ _ _)
            rw [upd_other (by omega), upd_other (by omega), upd_other (by omega)]
      · have e0 : numTo s e 1 = ((told e.log s.log), s.next, s.seq) := rfl
        rw [e0] at ho3
        have hmx := told_max p2 n2
        by_cases hlow : 0 ≤ e.next ∧ e.next < s.next
        · have hd : docApply s e = (noS, 1) := by
            unfold docApply
            rw [if_neg (by rw [hr]; simp), if_pos ?_]
            cases hb : badB s e with
            | true => rfl
            | false => exact absurd hlow ((bad_iff.1 hb).2.1 (by omega))
          have b1 : (e.next != -1) = true := by rw [bne_iff_ne]; omega
          have b2 := hlow.2
          simp only [push_cast, Nat.reduceBEq, Nat.reduceAdd, Nat.reduceEqDiff, reduceCtorEq, Nat.reduceLeDiff, Nat.reduceSub, Nat.reduceMul, Nat.reduceLT, Int.reduceEq, Int.reduceLT, Int.reduceLE, Int.reduceBEq, Int.reduceBNe, Int.reduceToNat, Int.reduceNeg, Int.reduceSub, Int.reduceAdd, ho0, ho1, ho2, ho3, nmC, hne, hne3, hne2, b1, b2, hd, noS, zeroC, nilA]
          exact apM_none _
        · have hst : ∀ H2 : Hp, (∀ j, j < 3 → H2 j = H1 j) → H2 3 = some (.cells (nmC (told e.log s.log) (told e.next s.next) s.seq fun _ => nilA)) → ∃ m, m < 3 - 1 ∧ NumInv s e m ⟨[(2, .ptr 0 0), (3, .ptr 1 0), (4, .ptr 2 0), (6, .ptr 3 0), (37, .agg [.ptr 3 0, .lit (.int .i64 e.log), .ptr 3 1, .lit (.int .i64 e.next), .ptr 3 2, .lit (.int .i64 e.seq)]), (38, .lit (.int .i64 2))], H2, nx + 1⟩ := fun H2 h1 h2 =>
            ⟨_, (by omega : 3 - 2 < 3 - 1), 2, nx + 1, H2, by omega, by omega, ⟨fun _ => hok.1 (by omega), fun _ => hlow, fun h => by omega⟩, (h1 0 (by omega)).trans ho0, (h1 1 (by omega)).trans ho1, (h1 2 (by omega)).trans ho2, h2, rfl, rfl⟩
          have hmx := hmx hlow
          cases b1 : (e.next != -1) with
          | true =>
            have hne1 : e.next ≠ -1 := by simpa using b1
            have b2 : ¬ e.next < s.next := fun h => hlow ⟨by omega, h⟩
            simp only [push_cast, Nat.reduceBEq, Nat.reduceAdd, Nat.reduceEqDiff, reduceCtorEq, Nat.reduceLeDiff, Nat.reduceSub, Nat.reduceMul, Nat.reduceLT, Int.reduceEq, Int.reduceLT, Int.reduceLE, Int.reduceBEq, Int.reduceBNe, Int.reduceToNat, Int.reduceNeg, Int.reduceSub, Int.reduceAdd, ho3, nmC, hne, hne3, hne4, hmx, b1, b2, Int.reduceAdd, wr1]
            refine hst _ (fun j hj => ?_) (upd_same _ _ _)
            rw [upd_other (by omega), upd_other (by omega), upd_other (by omega)]
          | false =>
            simp only [push_cast, Nat.reduceBEq, Nat.reduceAdd, Nat.reduceEqDiff, reduceCtorEq, Nat.reduceLeDiff, Nat.reduceSub, Nat.reduceMul, Nat.reduceLT, Int.reduceEq, Int.reduceLT, Int.reduceLE, Int.reduceBEq, Int.reduceBNe, Int.reduceToNat, Int.reduceNeg, Int.reduceSub, Int.reduceAdd, ho3, nmC, hne, hne3, hne4, hmx, b1, Int.reduceAdd, wr1]
            refine hst _ (fun j hj => ?_) (upd_same _ _ _)
            rw [upd_other (by omega), upd_other (by omega), upd_other (by omega)]
      · have e0 : numTo s e 2 = ((told e.log s.log), (told e.next s.next), s.seq) := rfl
        rw [e0] at ho3
        have hmx := told_max p3 n3
        by_cases hlow : 0 ≤ e.seq ∧ e.seq < s.seq
        · have hd : docApply s e = (noS, 1) := by
            unfold docApply
            rw [if_neg (by rw [hr]; simp), if_pos ?_]
            cases hb : badB s e with
            | true => rfl
            | false => exact absurd hlow ((bad_iff.1 hb).2.2 (by omega))
          have b1 : (e.seq != -1) = true := by rw [bne_iff_ne]; omega
          have b2 := hlow.2
          simp only [push_cast, Nat.reduceBEq, Nat.reduceAdd, Nat.reduceEqDiff, reduceCtorEq, Nat.reduceLeDiff, Nat.reduceSub, Nat.reduceMul, Nat.reduceLT, Int.reduceEq, Int.reduceLT, Int.reduceLE, Int.reduceBEq, Int.reduceBNe, Int.reduceToNat, Int.reduceNeg, Int.reduceSub, Int.reduceAdd, ho0, ho1, ho2, ho3, nmC, hne, hne3, hne2, b1, b2, hd, noS, zeroC, nilA]
          exact apM_none _
        · have hst : ∀ H2 : Hp, (∀ j, j < 3 → H2 j = H1 j) → H2 3 = some (.cells (nmC (told e.log s.log) (told e.next s.next) (told e.seq s.seq) fun _ => nilA)) → ∃ m, m < 3 - 2 ∧ NumInv s e m ⟨[(2, .ptr 0 0), (3, .ptr 1 0), (4, .ptr 2 0), (6, .ptr 3 0), (37, .agg [.ptr 3 0, .lit (.int .i64 e.log), .ptr 3 1, .lit (.int .i64 e.next), .ptr 3 2, .lit (.int .i64 e.seq)]), (38, .lit (.int .i64 3))], H2, nx + 1⟩ := fun H2 h1 h2 =>
            ⟨_, (by omega : 3 - 3 < 3 - 2), 3, nx + 1, H2, by omega, by omega, ⟨fun _ => hok.1 (by omega), fun _ => hok.2.1 (by omega), fun _ => hlow⟩, (h1 0 (by omega)).trans ho0, (h1 1 (by omega)).trans ho1, (h1 2 (by omega)).trans ho2, h2, rfl, rfl⟩
          have hmx := hmx hlow
          cases b1 : (e.seq != -1) with
          | true =>
            have hne1 : e.seq ≠ -1 := by simpa using b1
            have b2 : ¬ e.seq < s.seq := fun h => hlow ⟨by omega, h⟩
            simp only [push_cast, Nat.reduceBEq, Nat.reduceAdd, Nat.reduceEqDiff, reduceCtorEq, Nat.reduceLeDiff, Nat.reduceSub, Nat.reduceMul, Nat.reduceLT, Int.reduceEq, Int.reduceLT, Int.reduceLE, Int.reduceBEq, Int.reduceBNe, Int.reduceToNat, Int.reduceNeg, Int.reduceSub, Int.reduceAdd, ho3, nmC, hne, hne3, hne4, hmx, b1, b2, Int.reduceAdd, wr2]
            refine hst _ (fun j hj => ?_) (upd_same _ _ _)
            rw [upd_other (by omega), upd_other (by omega), upd_other (by omega)]
          | false =>
            simp only [push_cast, Nat.reduceBEq, Nat.reduceAdd, Nat.reduceEqDiff, reduceCtorEq, Nat.reduceLeDiff, Nat.reduceSub, Nat.reduceMul, Nat.reduceLT, Int.reduceEq, Int.reduceLT, Int.reduceLE, Int.reduceBEq, Int.reduceBNe, Int.reduceToNat, Int.reduceNeg, Int.reduceSub, Int.reduceAdd, ho3, nmC, hne, hne3, hne4, hmx, b1, Int.reduceAdd, wr2]
            refine hst _ (fun j hj => ?_) (upd_same _ _ _)
            rw [upd_other (by omega), upd_other (by omega), upd_other (by omega)]
    · obtain rfl : k = 3 := by omega
      have hbad := bad_iff.2 hok
      have h33 : ¬ ((3 : Nat) : Int) < 3 := by omega
      simp only [push_cast, Nat.reduceBEq, Nat.reduceAdd, Nat.reduceEqDiff, reduceCtorEq, Nat.reduceLeDiff, Nat.reduceSub, Nat.reduceMul, Nat.reduceLT, Int.reduceEq, Int.reduceLT, Int.reduceLE, Int.reduceBEq, Int.reduceBNe, Int.reduceToNat, Int.reduceNeg, Int.reduceSub, Int.reduceAdd, h33, ho0, ho1, ho2, ho3, stC]
      refine callH (all_h s (placed_files g.uq) hl) ?_
      rintro _ H2 n2' ⟨id, es, clock, rfl, hid1, hid2, hmap, hmo, hrel, hold⟩
      dsimp only at hid1 hold
      have q0 := (hold 0 (by omega)).trans ho0
      have q1 := (hold 1 (by omega)).trans ho1
      have q2 := (hold 2 (by omega)).trans ho2
      have q3 := (hold 3 (by omega)).trans ho3
      clear hold ho0 ho1 ho2 ho3
      simp only [push_cast, Nat.reduceBEq, Nat.reduceAdd, Nat.reduceEqDiff, reduceCtorEq, Nat.reduceLeDiff, Nat.reduceSub, Nat.reduceMul, Nat.reduceLT, Int.reduceEq, Int.reduceLT, Int.reduceLE, Int.reduceBEq, Int.reduceBNe, Int.reduceToNat, Int.reduceNeg, Int.reduceSub, Int.reduceAdd, q1, edCells]
      refine callH (swap_h s e hid2 hmap hmo hrel hga hna hgl hnl) ?_
      rintro _ H3 n3' ⟨rfl, hn3, hold, hgood⟩
      dsimp only at hn3 hold hgood
      have r2 := (hold 2 (by omega) (by omega)).trans q2
      have r3 := (hold 3 (by omega) (by omega)).trans q3
      clear hold q0 q1 q2 q3 hmap hmo hrel
      have hgo : docApply s e = applyGo s e := by unfold docApply; rw [if_neg (by rw [hr]; simp), if_neg (by rw [hbad]; simp)]
      by_cases hc : swapCode s e = 0
      · obtain ⟨s1, s2, es, clock, hg1, hg2, hcnt, hmap, hmo, hrel⟩ := hgood hc
        have hend : docApply s e = applyEnd s2 e := by rw [hgo]; unfold applyGo applyNew; rw [hg1]; simp only [hg2]
        have hmid := newS_mid _ _ _ (goneS_mid _ _ _ g.mid hg1) (fun a ha => List.all_eq_true.1 hna a ha) hg2
        have hcode : ((0 : Int) != 0) = false := rfl
        rw [hc]
        simp only [push_cast, Nat.reduceBEq, Nat.reduceAdd, Nat.reduceEqDiff, reduceCtorEq, Nat.reduceLeDiff, Nat.reduceSub, Nat.reduceMul, Nat.reduceLT, Int.reduceEq, Int.reduceLT, Int.reduceLE, Int.reduceBEq, Int.reduceBNe, Int.reduceToNat, Int.reduceNeg, Int.reduceSub, Int.reduceAdd, hcode, hmap]
        refine loopK (RowsInv s e es clock id n3' s2) _ [4, 6, 75] ⟨[], n3', n3' + 1, fun _ => nilA, fun _ => [], _, by omega, by omega, ?_, upd_same _ _ _, ?_, ?_, rows_start _ _ _, way_start (by rw [leftL_nil]; exact hrel), rfl, rfl⟩ ?_
        · rw [upd_other (by omega)]; exact hmap
        · rw [upd_other (by omega)]; exact r2
        · rw [upd_other (by omega)]; exact r3
        clear hmap r2 r3
        rintro m _ ⟨seen, iti, nx, f, L, H4, hit1, hit2, hmap, hoi, r2, r3, hrows, hway, rfl, rfl⟩
        simp only [push_cast, Nat.reduceBEq, Nat.reduceAdd, Nat.reduceEqDiff, reduceCtorEq, Nat.reduceLeDiff, Nat.reduceSub, Nat.reduceMul, Nat.reduceLT, Int.reduceEq, Int.reduceLT, Int.reduceLE, Int.reduceBEq, Int.reduceBNe, Int.reduceToNat, Int.reduceNeg, Int.reduceSub, Int.reduceAdd, hmap, hoi]
        refine nextK (borns_me hmo) (Nat.le_refl _) (fun hle => ?_) (fun x0 hx0 => ?_)
        · have hle' : leftL es seen = [] := by
            unfold pmA at hle
            rw [leftE_me] at hle
            exact List.map_eq_nil_iff.1 hle
          rw [hle'] at hway
          clear hle hle'
          simp only [push_cast, Nat.reduceBEq, Nat.reduceAdd, Nat.reduceEqDiff, reduceCtorEq, Nat.reduceLeDiff, Nat.reduceSub, Nat.reduceMul, Nat.reduceLT, Int.reduceEq, Int.reduceLT, Int.reduceLE, Int.reduceBEq, Int.reduceBNe, Int.reduceToNat, Int.reduceNeg, Int.reduceSub, Int.reduceAdd]
          refine loopK (SortInv s e (iti + 1) s2) _ [4, 6, 93] ⟨0, nx, f, L, H4, by omega, by omega, r2, r3, hrows, fun j hj => way_end hway hj, fun h => by omega, fun j h1 h2 => by omega, rfl, rfl⟩ ?_
          clear hrows hway r2 r3 hoi hmap
          obtain ⟨lo, hlo⟩ : ∃ lo, iti + 1 = lo := ⟨_, rfl⟩
          rw [hlo]
          have hlo4 : 4 ≤ lo := by omega
          clear hlo
          rintro m _ ⟨i, nx, f, L, H5, hi, hnxl, r2, r3, hrows, hperm, hs0, hap, rfl, rfl⟩
          by_cases h : i < 4
          · have hi4 : (i : Int) < 4 := by omega
            have hw := wrap_nat (k := i) (by omega)
            have hlen : (L i).length ≤ 1000000 := by
              have h1 := (hperm i h).length_eq
              unfold countS at hcnt
              obtain rfl | rfl | rfl | rfl : i = 0 ∨ i = 1 ∨ i = 2 ∨ i = 3 := by omega
              all_goals omega
            obtain ⟨z, hz⟩ : ∃ z, ((i : Int) == 0) = z := ⟨_, rfl⟩
            have hcell : [AV.lit (.int .i64 (numTo s e 3).1), .lit (.int .i64 (numTo s e 3).2.1), .lit (.int .i64 (numTo s e 3).2.2), f 0, f 1, f 2, f 3].drop (3 + i) = f i :: ([f 0, f 1, f 2, f 3].drop (i + 1)) := by
              obtain rfl | rfl | rfl | rfl : i = 0 ∨ i = 1 ∨ i = 2 ∨ i = 3 := by omega
              all_goals rfl
            rcases hrows.row i h with ⟨hfi, hLi⟩ | ⟨rid, hfi, hrow, hr1, hr2⟩
            · unfold nilA at hfi
              rw [hfi] at hcell
              simp only [push_cast, Nat.reduceBEq, Nat.reduceAdd, Nat.reduceEqDiff, reduceCtorEq, Nat.reduceLeDiff, Nat.reduceSub, Nat.reduceMul, Nat.reduceLT, Int.reduceEq, Int.reduceLT, Int.reduceLE, Int.reduceBEq, Int.reduceBNe, Int.reduceToNat, Int.reduceNeg, Int.reduceSub, Int.reduceAdd, hi4, r3, nmC, hcell]
              refine callK (sortNil_h _) ?_
              simp only [push_cast, Nat.reduceBEq, Nat.reduceAdd, Nat.reduceEqDiff, reduceCtorEq, Nat.reduceLeDiff, Nat.reduceSub, Nat.reduceMul, Nat.reduceLT, Int.reduceEq, Int.reduceLT, Int.reduceLE, Int.reduceBEq, Int.reduceBNe, Int.reduceToNat, Int.reduceNeg, Int.reduceSub, Int.reduceAdd, hw]
              refine sortInv_next h hnxl r2 r3 (Nat.le_refl _) (l' := L i) (by rw [setF_self]; exact hrows) hperm hs0 hap (List.Perm.refl _) (fun _ => by rw [hLi]; exact List.Pairwise.nil) (fun _ => by rw [hLi]; exact ⟨List.Pairwise.nil, rfl⟩) rfl
            · rw [hfi] at hcell
              simp only [push_cast, Nat.reduceBEq, Nat.reduceAdd, Nat.reduceEqDiff, reduceCtorEq, Nat.reduceLeDiff, Nat.reduceSub, Nat.reduceMul, Nat.reduceLT, Int.reduceEq, Int.reduceLT, Int.reduceLE, Int.reduceBEq, Int.reduceBNe, Int.reduceToNat, Int.reduceNeg, Int.reduceSub, Int.reduceAdd, hi4, r3, nmC, hcell]
              refine callH (sort_h (i : Int) hrow hlen z hz) ?_
              rintro _ H6 n6 ⟨rfl, l', hp1, hp2, hp3, rfl, rfl⟩
              dsimp only
              have m2 : upd H5 rid (some (.row true 51 (l'.map metaH))) 2 = some (.cells zeroC) := by rw [upd_other (by omega)]; exact r2
              have m3 : upd H5 rid (some (.row true 51 (l'.map metaH))) 3 = some (.cells (nmC (numTo s e 3).1 (numTo s e 3).2.1 (numTo s e 3).2.2 f)) := by rw [upd_other (by omega)]; exact r3
              have hrows2 : Rows (upd H5 rid (some (.row true 51 (l'.map metaH)))) lo n6 f (setF L i l') := hrows.set h hfi hp1.length_eq hr1 hr2 (upd_same _ _ _) (Nat.le_refl _) fun j _ _ hj => upd_other (fun e => hj e.symm)
              generalize upd H5 rid (some (.row true 51 (l'.map metaH))) = H6 at m2 m3 hrows2 ⊢
              cases z with
              | true =>
                have hi0 : i = 0 := by have := beq_iff_eq.1 hz; omega
                simp only [push_cast, Nat.reduceBEq, Nat.reduceAdd, Nat.reduceEqDiff, reduceCtorEq, Nat.reduceLeDiff, Nat.reduceSub, Nat.reduceMul, Nat.reduceLT, Int.reduceEq, Int.reduceLT, Int.reduceLE, Int.reduceBEq, Int.reduceBNe, Int.reduceToNat, Int.reduceNeg, Int.reduceSub, Int.reduceAdd, hw]
                exact sortInv_next h hnxl m2 m3 (Nat.le_refl _) hrows2 hperm hs0 hap hp1 (fun _ => hp2 rfl) (fun h1 => by omega) rfl
              | false =>
                have hi0 : i ≠ 0 := fun e => by subst e; cases hz
                have hsr : Srt l' := hp3 rfl
                cases hal : apartL l' with
                | true =>
                  simp only [push_cast, Nat.reduceBEq, Nat.reduceAdd, Nat.reduceEqDiff, reduceCtorEq, Nat.reduceLeDiff, Nat.reduceSub, Nat.reduceMul, Nat.reduceLT, Int.reduceEq, Int.reduceLT, Int.reduceLE, Int.reduceBEq, Int.reduceBNe, Int.reduceToNat, Int.reduceNeg, Int.reduceSub, Int.reduceAdd, hw, Bool.false_eq_true]
                  exact sortInv_next h hnxl m2 m3 (Nat.le_refl _) hrows2 hperm hs0 hap hp1 (fun h1 => by omega) (fun _ => ⟨hsr, hal⟩) rfl
                | false =>
                  have hbadl : apartL (s2.lv i) = false := by rw [← srt_apart_eq (hp1.trans (hperm i h)) (hmid.srt i (by omega) h) hsr (hmid.good i)]; exact hal
                  have hd : docApply s e = (noS, 2) := by
                    rw [hend]
                    unfold applyEnd
                    rw [if_neg (by omega), if_pos ?_]
                    rw [← Bool.not_eq_true]
                    intro hap'
                    rw [apartS_lv hap' (by omega) h] at hbadl
                    cases hbadl
                  simp only [push_cast, Nat.reduceBEq, Nat.reduceAdd, Nat.reduceEqDiff, reduceCtorEq, Nat.reduceLeDiff, Nat.reduceSub, Nat.reduceMul, Nat.reduceLT, Int.reduceEq, Int.reduceLT, Int.reduceLE, Int.reduceBEq, Int.reduceBNe, Int.reduceToNat, Int.reduceNeg, Int.reduceSub, Int.reduceAdd, hd, noS, m2, zeroC, nilA, Bool.false_eq_true]
                  exact apM_none _
          · obtain rfl : i = 4 := by omega
            have h44 : ¬ ((4 : Nat) : Int) < 4 := by omega
            have hL : ∀ j, j < 4 → L j = s2.lv j := fun j hj => by
              by_cases hj0 : j = 0
              · subst hj0
                exact srtF_eq (hperm 0 hj) hmid.o0 (hs0 (by omega))
              · obtain ⟨q1, q2⟩ := hap j (by omega) hj
                exact srt_apart (hperm j hj) (hmid.srt j (by omega) hj) q1 (hmid.good j) (.inr q2)
            have hapS : apartS s2 = true := by
              unfold apartS
              rw [← hL 1 (by omega), ← hL 2 (by omega), ← hL 3 (by omega), (hap 1 (by omega) (by omega)).2, (hap 2 (by omega) (by omega)).2, (hap 3 (by omega) (by omega)).2]
              rfl
            have hd : docApply s e = (tellS s2 e, 0) := by
              rw [hend]
              unfold applyEnd
              rw [if_neg (by omega), if_neg (by rw [hapS]; simp)]
            have o0 := row_one (hrows.row 0 (by omega))
            have o1 := row_one (hrows.row 1 (by omega))
            have o2 := row_one (hrows.row 2 (by omega))
            have o3 := row_one (hrows.row 3 (by omega))
            simp only [AV.isOne, Value.oneCell'] at o0 o1 o2 o3
            simp only [push_cast, Nat.reduceBEq, Nat.reduceAdd, Nat.reduceEqDiff, reduceCtorEq, Nat.reduceLeDiff, Nat.reduceSub, Nat.reduceMul, Nat.reduceLT, Int.reduceEq, Int.reduceLT, Int.reduceLE, Int.reduceBEq, Int.reduceBNe, Int.reduceToNat, Int.reduceNeg, Int.reduceSub, Int.reduceAdd, h44, r3, r2, nmC, zeroC, hd, o0, o1, o2, o3]
            exact apM_rows (hrows.keep2 hlo4) (fun i hi => by rw [hL i hi]; have := few_lvK hcnt i hi; omega)
        · unfold pmA at hx0
          rw [leftE_me] at hx0
          obtain ⟨x, hxl, rfl⟩ := List.mem_map.1 hx0
          clear hx0
          have hxm : x ∈ es := (List.mem_filter.1 hxl).1
          have hfb : (pmA es).find? (fun e => e.born == x.born) = some ⟨.agg [.lit (.int .i64 x.key.level), .lit (.int .i64 x.key.file)], .agg [.lit (.int .i64 x.val.file), .lit (.int .i64 x.val.size), .lit (.string x.val.first), .lit (.string x.val.last)], x.born⟩ := find_born (kA := plA) (vA := metaA) hmo.borns hxm
          have hll := left_len hmo.borns hxl
          obtain ⟨i, hi4, hxi⟩ := way_level (L := L) hrel hxm
          have hway2 := way_next hway (leftL_next hmo.borns hxl) hxi
          have hlen := rows_len hway hcnt hi4
          have ne1 : (iti == id) = false := by rw [← Bool.not_eq_true, beq_iff_eq]; omega
          have ne2 : (nx == iti) = false := by rw [← Bool.not_eq_true, beq_iff_eq]; omega
          have ne3 : (nx == id) = false := by rw [← Bool.not_eq_true, beq_iff_eq]; omega
          have ne4 : (iti == 3) = false := by rw [← Bool.not_eq_true, beq_iff_eq]; omega
          have ne5 : (nx == 3) = false := by rw [← Bool.not_eq_true, beq_iff_eq]; omega
          have ne6 : (nx + 1 == 3) = false := by rw [← Bool.not_eq_true, beq_iff_eq]; omega
          have ne7 : (nx + 1 + 1 == 3) = false := by rw [← Bool.not_eq_true, beq_iff_eq]; omega
          have hi4' : (i : Int) < 4 := by omega
          have h4id : 4 ≤ id := by omega
          rcases hrows.row i hi4 with ⟨hfi, hLi⟩ | ⟨rid, hfi, hrow, hr1, hr2⟩
          · obtain rfl | rfl | rfl | rfl : i = 0 ∨ i = 1 ∨ i = 2 ∨ i = 3 := by omega
            · simp only [push_cast, Nat.reduceBEq, Nat.reduceAdd, Nat.reduceEqDiff, reduceCtorEq, Nat.reduceLeDiff, Nat.reduceSub, Nat.reduceMul, Nat.reduceLT, Int.reduceEq, Int.reduceLT, Int.reduceLE, Int.reduceBEq, Int.reduceBNe, Int.reduceToNat, Int.reduceNeg, Int.reduceSub, Int.reduceAdd, Ent.me, plA, plH, metaA, metaH, hmap, List.getLast?_concat, hfb, ne1, ne2, ne3, ne4, ne5, ne6, ne7, nbq0_1 nx, nbq1_0 nx, nbq2_0 nx, nbq2_1 nx, nbq0_2 nx, nbq1_2 nx, hxi, hi4', r3, nmC, hfi, nilA]
              refine rowsInv_next (i := 0) (k := 1) h4id (by omega) hit1 hit2 hmap r2 hrows hway (leftL_next hmo.borns hxl) (by omega) hxi (by rw [hLi]; simp) ?_ ?_ ?_ ?_
              · rw [upd_other (by omega), upd_same, hLi]; rfl
              · intro j h1 h2 h3 h4
                simp only [upd_at]
                have e1 : Nat.beq 3 j = false := by rw [beqE, ← Bool.not_eq_true, beq_iff_eq]; omega
                have e2 : Nat.beq (nx + 1 + 1) j = false := by rw [beqE, ← Bool.not_eq_true, beq_iff_eq]; omega
                have e4 : Nat.beq (nx + 1) j = false := by rw [beqE, ← Bool.not_eq_true, beq_iff_eq]; omega
                have e5 : Nat.beq nx j = false := by rw [beqE, ← Bool.not_eq_true, beq_iff_eq]; omega
                have e6 : Nat.beq iti j = false := by rw [beqE, ← Bool.not_eq_true, beq_iff_eq]; omega
                simp only [e1, e2, e4, e5, e6, cond_false]
              · simp only [upd_at]
                have e1 : Nat.beq 3 iti = false := by rw [beqE, ← Bool.not_eq_true, beq_iff_eq]; omega
                have e2 : Nat.beq (nx + 1 + 1) iti = false := by rw [beqE, ← Bool.not_eq_true, beq_iff_eq]; omega
                have e4 : Nat.beq (nx + 1) iti = false := by rw [beqE, ← Bool.not_eq_true, beq_iff_eq]; omega
                have e5 : Nat.beq nx iti = false := by rw [beqE, ← Bool.not_eq_true, beq_iff_eq]; omega
                have e6 : Nat.beq iti iti = true := by rw [beqE]; simp
                simp only [e1, e2, e4, e5, e6, cond_false, cond_true]
              · rw [upd_same]; rfl
            · simp only [push_cast, Nat.reduceBEq, Nat.reduceAdd, Nat.reduceEqDiff, reduceCtorEq, Nat.reduceLeDiff, Nat.reduceSub, Nat.reduceMul, Nat.reduceLT, Int.reduceEq, Int.reduceLT, Int.reduceLE, Int.reduceBEq, Int.reduceBNe, Int.reduceToNat, Int.reduceNeg, Int.reduceSub, Int.reduceAdd, Ent.me, plA, plH, metaA, metaH, hmap, List.getLast?_concat, hfb, ne1, ne2, ne3, ne4, ne5, ne6, ne7, nbq0_1 nx, nbq1_0 nx, nbq2_0 nx, nbq2_1 nx, nbq0_2 nx, nbq1_2 nx, hxi, hi4', r3, nmC, hfi, nilA]
              refine rowsInv_next (i := 1) (k := 1) h4id (by omega) hit1 hit2 hmap r2 hrows hway (leftL_next hmo.borns hxl) (by omega) hxi (by rw [hLi]; simp) ?_ ?_ ?_ ?_
              · rw [upd_other (by omega), upd_same, hLi]; rfl
              · intro j h1 h2 h3 h4
                simp only [upd_at]
                have e1 : Nat.beq 3 j = false := by rw [beqE, ← Bool.not_eq_true, beq_iff_eq]; omega
                have e2 : Nat.beq (nx + 1 + 1) j = false := by rw [beqE, ← Bool.not_eq_true, beq_iff_eq]; omega
                have e4 : Nat.beq (nx + 1) j = false := by rw [beqE, ← Bool.not_eq_true, beq_iff_eq]; omega
                have e5 : Nat.beq nx j = false := by rw [beqE, ← Bool.not_eq_true, beq_iff_eq]; omega
                have e6 : Nat.beq iti j = false := by rw [beqE, ← Bool.not_eq_true, beq_iff_eq]; omega
                simp only [e1, e2, e4, e5, e6, cond_false]
              · simp only [upd_at]
                have e1 : Nat.beq 3 iti = false := by rw [beqE, ← Bool.not_eq_true, beq_iff_eq]; omega
                have e2 : Nat.beq (nx + 1 + 1) iti = false := by rw [beqE, ← Bool.not_eq_true, beq_iff_eq]; omega
                have e4 : Nat.beq (nx + 1) iti = false := by rw [beqE, ← Bool.not_eq_true, beq_iff_eq]; omega
                have e5 : Nat.beq nx iti = false := by rw [beqE, ← Bool.not_eq_true, beq_iff_eq]; omega
                have e6 : Nat.beq iti iti = true := by rw [beqE]; simp
                simp only [e1, e2, e4, e5, e6, cond_false, cond_true]
              · rw [upd_same]; rfl
            · simp only [push_cast, Nat.reduceBEq, Nat.reduceAdd, Nat.reduceEqDiff, reduceCtorEq, Nat.reduceLeDiff, Nat.reduceSub, Nat.reduceMul, Nat.reduceLT, Int.reduceEq, Int.reduceLT, Int.reduceLE, Int.reduceBEq, Int.reduceBNe, Int.reduceToNat, Int.reduceNeg, Int.reduceSub, Int.reduceAdd, Ent.me, plA, plH, metaA, metaH, hmap, List.getLast?_concat, hfb, ne1, ne2, ne3, ne4, ne5, ne6, ne7, nbq0_1 nx, nbq1_0 nx, nbq2_0 nx, nbq2_1 nx, nbq0_2 nx, nbq1_2 nx, hxi, hi4', r3, nmC, hfi, nilA]
              refine rowsInv_next (i := 2) (k := 1) h4id (by omega) hit1 hit2 hmap r2 hrows hway (leftL_next hmo.borns hxl) (by omega) hxi (by rw [hLi]; simp) ?_ ?_ ?_ ?_
              · rw [upd_other (by omega), upd_same, hLi]; rfl
              · intro j h1 h2 h3 h4
                simp only [upd_at]
                have e1 : Nat.beq 3 j = false := by rw [beqE, ← Bool.not_eq_true, beq_iff_eq]; omega
                have e2 : Nat.beq (nx + 1 + 1) j = false := by rw [beqE, ← Bool.not_eq_true, beq_iff_eq]; omega
                have e4 : Nat.beq (nx + 1) j = false := by rw [beqE, ← Bool.not_eq_true, beq_iff_eq]; omega
                have e5 : Nat.beq nx j = false := by rw [beqE, ← Bool.not_eq_true, beq_iff_eq]; omega
                have e6 : Nat.beq iti j = false := by rw [beqE, ← Bool.not_eq_true, beq_iff_eq]; omega
                simp only [e1, e2, e4, e5, e6, cond_false]
              · simp only [upd_at]
                have e1 : Nat.beq 3 iti = false := by rw [beqE, ← Bool.not_eq_true, beq_iff_eq]; omega
                have e2 : Nat.beq (nx + 1 + 1) iti = false := by rw [beqE, ← Bool.not_eq_true, beq_iff_eq]; omega
                have e4 : Nat.beq (nx + 1) iti = false := by rw [beqE, ← Bool.not_eq_true, beq_iff_eq]; omega
                have e5 : Nat.beq nx iti = false := by rw [beqE, ← Bool.not_eq_true, beq_iff_eq]; omega
                have e6 : Nat.beq iti iti = true := by rw [beqE]; simp
                simp only [e1, e2, e4, e5, e6, cond_false, cond_true]
              · rw [upd_same]; rfl
            · simp only [push_cast, Nat.reduceBEq, Nat.reduceAdd, Nat.reduceEqDiff, reduceCtorEq, Nat.reduceLeDiff, Nat.reduceSub, Nat.reduceMul, Nat.reduceLT, Int.reduceEq, Int.reduceLT, Int.reduceLE, Int.reduceBEq, Int.reduceBNe, Int.reduceToNat, Int.reduceNeg, Int.reduceSub, Int.reduceAdd, Ent.me, plA, plH, metaA, metaH, hmap, List.getLast?_concat, hfb, ne1, ne2, ne3, ne4, ne5, ne6, ne7, nbq0_1 nx, nbq1_0 nx, nbq2_0 nx, nbq2_1 nx, nbq0_2 nx, nbq1_2 nx, hxi, hi4', r3, nmC, hfi, nilA]
              refine rowsInv_next (i := 3) (k := 1) h4id (by omega) hit1 hit2 hmap r2 hrows hway (leftL_next hmo.borns hxl) (by omega) hxi (by rw [hLi]; simp) ?_ ?_ ?_ ?_
              · rw [upd_other (by omega), upd_same, hLi]; rfl
              · intro j h1 h2 h3 h4
                simp only [upd_at]
                have e1 : Nat.beq 3 j = false := by rw [beqE, ← Bool.not_eq_true, beq_iff_eq]; omega
                have e2 : Nat.beq (nx + 1 + 1) j = false := by rw [beqE, ← Bool.not_eq_true, beq_iff_eq]; omega
                have e4 : Nat.beq (nx + 1) j = false := by rw [beqE, ← Bool.not_eq_true, beq_iff_eq]; omega
                have e5 : Nat.beq nx j = false := by rw [beqE, ← Bool.not_eq_true, beq_iff_eq]; omega
                have e6 : Nat.beq iti j = false := by rw [beqE, ← Bool.not_eq_true, beq_iff_eq]; omega
                simp only [e1, e2, e4, e5, e6, cond_false]
              · simp only [upd_at]
                have e1 : Nat.beq 3 iti = false := by rw [beqE, ← Bool.not_eq_true, beq_iff_eq]; omega
                have e2 : Nat.beq (nx + 1 + 1) iti = false := by rw [beqE, ← Bool.not_eq_true, beq_iff_eq]; omega
                have e4 : Nat.beq (nx + 1) iti = false := by rw [beqE, ← Bool.not_eq_true, beq_iff_eq]; omega
                have e5 : Nat.beq nx iti = false := by rw [beqE, ← Bool.not_eq_true, beq_iff_eq]; omega
                have e6 : Nat.beq iti iti = true := by rw [beqE]; simp
                simp only [e1, e2, e4, e5, e6, cond_false, cond_true]
              · rw [upd_same]; rfl
          · have hb1 : ((L i).length + 1) * 48 ≤ 140737488355328 := by omega
            have m1 : (iti == rid) = false := by rw [← Bool.not_eq_true, beq_iff_eq]; omega
            have m2 : (nx == rid) = false := by rw [← Bool.not_eq_true, beq_iff_eq]; omega
            have m3 : (nx + 1 == rid) = false := by rw [← Bool.not_eq_true, beq_iff_eq]; omega
            have m4 : (rid == 3) = false := by rw [← Bool.not_eq_true, beq_iff_eq]; omega
            have m5 : (rid == nx) = false := by rw [← Bool.not_eq_true, beq_iff_eq]; omega
            have m6 : (nx + 1 + 1 == rid) = false := by rw [← Bool.not_eq_true, beq_iff_eq]; omega
            have m7 : (rid == iti) = false := by rw [← Bool.not_eq_true, beq_iff_eq]; omega
            obtain rfl | rfl | rfl | rfl : i = 0 ∨ i = 1 ∨ i = 2 ∨ i = 3 := by omega
            · simp only [push_cast, Nat.reduceBEq, Nat.reduceAdd, Nat.reduceEqDiff, reduceCtorEq, Nat.reduceLeDiff, Nat.reduceSub, Nat.reduceMul, Nat.reduceLT, Int.reduceEq, Int.reduceLT, Int.reduceLE, Int.reduceBEq, Int.reduceBNe, Int.reduceToNat, Int.reduceNeg, Int.reduceSub, Int.reduceAdd, Ent.me, plA, plH, metaA, metaH, hmap, List.getLast?_concat, hfb, ne1, ne2, ne3, ne4, ne5, ne6, ne7, nbq0_1 nx, nbq1_0 nx, nbq2_0 nx, nbq2_1 nx, nbq0_2 nx, nbq1_2 nx, hxi, hi4', r3, nmC, hfi, hrow, hb1, m1, m2, m3, m4, m5, m6, m7]
              refine rowsInv_next (i := 0) (k := (L 0).length + 1) h4id (by omega) hit1 hit2 hmap r2 hrows hway (leftL_next hmo.borns hxl) (by omega) hxi (by simp) ?_ ?_ ?_ ?_
              · rw [upd_other (by omega), upd_same, List.map_append]; rfl
              · intro j h1 h2 h3 h4
                have h5 : j ≠ rid := fun e => h4 (by rw [hfi, e]; rfl)
                simp only [upd_at]
                have e1 : Nat.beq 3 j = false := by rw [beqE, ← Bool.not_eq_true, beq_iff_eq]; omega
                have e2 : Nat.beq (nx + 1 + 1) j = false := by rw [beqE, ← Bool.not_eq_true, beq_iff_eq]; omega
                have e3 : Nat.beq rid j = false := by rw [beqE, ← Bool.not_eq_true, beq_iff_eq]; omega
                have e4 : Nat.beq (nx + 1) j = false := by rw [beqE, ← Bool.not_eq_true, beq_iff_eq]; omega
                have e5 : Nat.beq nx j = false := by rw [beqE, ← Bool.not_eq_true, beq_iff_eq]; omega
                have e6 : Nat.beq iti j = false := by rw [beqE, ← Bool.not_eq_true, beq_iff_eq]; omega
                simp only [e1, e2, e3, e4, e5, e6, cond_false]
              · simp only [upd_at]
                have e1 : Nat.beq 3 iti = false := by rw [beqE, ← Bool.not_eq_true, beq_iff_eq]; omega
                have e2 : Nat.beq (nx + 1 + 1) iti = false := by rw [beqE, ← Bool.not_eq_true, beq_iff_eq]; omega
                have e3 : Nat.beq rid iti = false := by rw [beqE, ← Bool.not_eq_true, beq_iff_eq]; omega
                have e4 : Nat.beq (nx + 1) iti = false := by rw [beqE, ← Bool.not_eq_true, beq_iff_eq]; omega
                have e5 : Nat.beq nx iti = false := by rw [beqE, ← Bool.not_eq_true, beq_iff_eq]; omega
                have e6 : Nat.beq iti iti = true := by rw [beqE]; simp
                simp only [e1, e2, e3, e4, e5, e6, cond_false, cond_true]
              · rw [upd_same]; rfl
            · simp only [push_cast, Nat.reduceBEq, Nat.reduceAdd, Nat.reduceEqDiff, reduceCtorEq, Nat.reduceLeDiff, Nat.reduceSub, Nat.reduceMul, Nat.reduceLT, Int.reduceEq, Int.reduceLT, Int.reduceLE, Int.reduceBEq, Int.reduceBNe, Int.reduceToNat, Int.reduceNeg, Int.reduceSub, Int.reduceAdd, Ent.me, plA, plH, metaA, metaH, hmap, List.getLast?_concat, hfb, ne1, ne2, ne3, ne4, ne5, ne6, ne7, nbq0_1 nx, nbq1_0 nx, nbq2_0 nx, nbq2_1 nx, nbq0_2 nx, nbq1_2 nx, hxi, hi4', r3, nmC, hfi, hrow, hb1, m1, m2, m3, m4, m5, m6, m7]
              refine rowsInv_next (i := 1) (k := (L 1).length + 1) h4id (by omega) hit1 hit2 hmap r2 hrows hway (leftL_next hmo.borns hxl) (by omega) hxi (by simp) ?_ ?_ ?_ ?_
              · rw [upd_other (by omega), upd_same, List.map_append]; rfl
              · intro j h1 h2 h3 h4
                have h5 : j ≠ rid := fun e => h4 (by rw [hfi, e]; rfl)
                simp only [upd_at]
                have e1 : Nat.beq 3 j = false := by rw [beqE, ← Bool.not_eq_true, beq_iff_eq]; omega
                have e2 : Nat.beq (nx + 1 + 1) j = false := by rw [beqE, ← Bool.not_eq_true, beq_iff_eq]; omega
                have e3 : Nat.beq rid j = false := by rw [beqE, ← Bool.not_eq_true, beq_iff_eq]; omega
                have e4 : Nat.beq (nx + 1) j = false := by rw [beqE, ← Bool.not_eq_true, beq_iff_eq]; omega
                have e5 : Nat.beq nx j = false := by rw [beqE, ← Bool.not_eq_true, beq_iff_eq]; omega
                have e6 : Nat.beq iti j = false := by rw [beqE, ← Bool.not_eq_true, beq_iff_eq]; omega
                simp only [e1, e2, e3, e4, e5, e6, cond_false]
              · simp only [upd_at]
                have e1 : Nat.beq 3 iti = false := by rw [beqE, ← Bool.not_eq_true, beq_iff_eq]; omega
                have e2 : Nat.beq (nx + 1 + 1) iti = false := by rw [beqE, ← Bool.not_eq_true, beq_iff_eq]; omega
                have e3 : Nat.beq rid iti = false := by rw [beqE, ← Bool.not_eq_true, beq_iff_eq]; omega
                have e4 : Nat.beq (nx + 1) iti = false := by rw [beqE, ← Bool.not_eq_true, beq_iff_eq]; omega
                have e5 : Nat.beq nx iti = false := by rw [beqE, ← Bool.not_eq_true, beq_iff_eq]; omega
                have e6 : Nat.beq iti iti = true := by rw [beqE]; simp
                simp only [e1, e2, e3, e4, e5, e6, cond_false, cond_true]
              · rw [upd_same]; rfl
            · simp only [push_cast, Nat.reduceBEq, Nat.reduceAdd, Nat.reduceEqDiff, reduceCtorEq, Nat.reduceLeDiff, Nat.reduceSub, Nat.reduceMul, Nat.reduceLT, Int.reduceEq, Int.reduceLT, Int.reduceLE, Int.reduceBEq, Int.reduceBNe, Int.reduceToNat, Int.reduceNeg, Int.reduceSub, Int.reduceAdd, Ent.me, plA, plH, metaA, metaH, hmap, List.getLast?_concat, hfb, ne1, ne2, ne3, ne4, ne5, ne6, ne7, nbq0_1 nx, nbq1_0 nx, nbq2_0 nx, nbq2_1 nx, nbq0_2 nx, nbq1_2 nx, hxi, hi4', r3, nmC, hfi, hrow, hb1, m1, m2, m3, m4, m5, m6, m7]
              refine rowsInv_next (i := 2) (k := (L 2).length + 1) h4id (by omega) hit1 hit2 hmap r2 hrows hway (leftL_next hmo.borns hxl) (by omega) hxi (by simp) ?_ ?_ ?_ ?_
              · rw [upd_other (by omega), upd_same, List.map_append]; rfl
              · intro j h1 h2 h3 h4
                have h5 : j ≠ rid := fun e => h4 (by rw [hfi, e]; rfl)
                simp only [upd_at]
                have e1 : Nat.beq 3 j = false := by rw [beqE, ← Bool.not_eq_true, beq_iff_eq]; omega
                have e2 : Nat.beq (nx + 1 + 1) j = false := by rw [beqE, ← Bool.not_eq_true, beq_iff_eq]; omega
                have e3 : Nat.beq rid j = false := by rw [beqE, ← Bool.not_eq_true, beq_iff_eq]; omega
                have e4 : Nat.beq (nx + 1) j = false := by rw [beqE, ← Bool.not_eq_true, beq_iff_eq]; omega
                have e5 : Nat.beq nx j = false := by rw [beqE, ← Bool.not_eq_true, beq_iff_eq]; omega
                have e6 : Nat.beq iti j = false := by rw [beqE, ← Bool.not_eq_true, beq_iff_eq]; omega
                simp only [e1, e2, e3, e4, e5, e6, cond_false]
              · simp only [upd_at]
                have e1 : Nat.beq 3 iti = false := by rw [beqE, ← Bool.not_eq_true, beq_iff_eq]; omega
                have e2 : Nat.beq (nx + 1 + 1) iti = false := by rw [beqE, ← Bool.not_eq_true, beq_iff_eq]; omega
                have e3 : Nat.beq rid iti = false := by rw [beqE, ← Bool.not_eq_true, beq_iff_eq]; omega
                have e4 : Nat.beq (nx + 1) iti = false := by rw [beqE, ← Bool.not_eq_true, beq_iff_eq]; omega
                have e5 : Nat.beq nx iti = false := by rw [beqE, ← Bool.not_eq_true, beq_iff_eq]; omega
                have e6 : Nat.beq iti iti = true := by rw [beqE]; simp
                simp only [e1, e2, e3, e4, e5, e6, cond_false, cond_true]
              · rw [upd_same]; rfl
            · simp only [push_cast, Nat.reduceBEq, Nat.reduceAdd, Nat.reduceEqDiff, reduceCtorEq, Nat.reduceLeDiff, Nat.reduceSub, Nat.reduceMul, Nat.reduceLT, Int.reduceEq, Int.reduceLT, Int.reduceLE, Int.reduceBEq, Int.reduceBNe, Int.reduceToNat, Int.reduceNeg, Int.reduceSub, Int.reduceAdd, Ent.me, plA, plH, metaA, metaH, hmap, List.getLast?_concat, hfb, ne1, ne2, ne3, ne4, ne5, ne6, ne7, nbq0_1 nx, nbq1_0 nx, nbq2_0 nx, nbq2_1 nx, nbq0_2 nx, nbq1_2 nx, hxi, hi4', r3, nmC, hfi, hrow, hb1, m1, m2, m3, m4, m5, m6, m7]
              refine rowsInv_next (i := 3) (k := (L 3).length + 1) h4id (by omega) hit1 hit2 hmap r2 hrows hway (leftL_next hmo.borns hxl) (by omega) hxi (by simp) ?_ ?_ ?_ ?_
              · rw [upd_other (by omega), upd_same, List.map_append]; rfl
              · intro j h1 h2 h3 h4
                have h5 : j ≠ rid := fun e => h4 (by rw [hfi, e]; rfl)
                simp only [upd_at]
                have e1 : Nat.beq 3 j = false := by rw [beqE, ← Bool.not_eq_true, beq_iff_eq]; omega
                have e2 : Nat.beq (nx + 1 + 1) j = false := by rw [beqE, ← Bool.not_eq_true, beq_iff_eq]; omega
                have e3 : Nat.beq rid j = false := by rw [beqE, ← Bool.not_eq_true, beq_iff_eq]; omega
                have e4 : Nat.beq (nx + 1) j = false := by rw [beqE, ← Bool.not_eq_true, beq_iff_eq]; omega
                have e5 : Nat.beq nx j = false := by rw [beqE, ← Bool.not_eq_true, beq_iff_eq]; omega
                have e6 : Nat.beq iti j = false := by rw [beqE, ← Bool.not_eq_true, beq_iff_eq]; omega
                simp only [e1, e2, e3, e4, e5, e6, cond_false]
              · simp only [upd_at]
                have e1 : Nat.beq 3 iti = false := by rw [beqE, ← Bool.not_eq_true, beq_iff_eq]; omega
                have e2 : Nat.beq (nx + 1 + 1) iti = false := by rw [beqE, ← Bool.not_eq_true, beq_iff_eq]; omega
                have e3 : Nat.beq rid iti = false := by rw [beqE, ← Bool.not_eq_true, beq_iff_eq]; omega
                have e4 : Nat.beq (nx + 1) iti = false := by rw [beqE, ← Bool.not_eq_true, beq_iff_eq]; omega
                have e5 : Nat.beq nx iti = false := by rw [beqE, ← Bool.not_eq_true, beq_iff_eq]; omega
                have e6 : Nat.beq iti iti = true := by rw [beqE]; simp
                simp only [e1, e2, e3, e4, e5, e6, cond_false, cond_true]
              · rw [upd_same]; rfl
      · have hcode : (swapCode s e != 0) = true := by simpa using hc
        have hd : docApply s e = (noS, swapCode s e) := by
          rw [hgo]
          unfold swapCode at hc ⊢
          unfold applyGo applyNew applyEnd
          cases hg1 : goneS s e.gone with
          | none => simp only [hg1]
          | some s1 =>
            rw [hg1] at hc
            simp only at hc ⊢
            cases hg2 : newS s1 e.new with
            | none => simp only [hg2]
            | some s2 =>
              rw [hg2] at hc
              simp only at hc ⊢
              by_cases hcc : 1000 < countS s2
              · rw [if_pos hcc, if_pos hcc]
              · rw [if_neg hcc] at hc; exact absurd rfl hc
        simp only [push_cast, Nat.reduceBEq, Nat.reduceAdd, Nat.reduceEqDiff, reduceCtorEq, Nat.reduceLeDiff, Nat.reduceSub, Nat.reduceMul, Nat.reduceLT, Int.reduceEq, Int.reduceLT, Int.reduceLE, Int.reduceBEq, Int.reduceBNe, Int.reduceToNat, Int.reduceNeg, Int.reduceSub, Int.reduceAdd, hcode, hd, noS, r2, zeroC, nilA]
        exact apM_none _
end Go.Proofs.Ytheanmfdfoefoaa
