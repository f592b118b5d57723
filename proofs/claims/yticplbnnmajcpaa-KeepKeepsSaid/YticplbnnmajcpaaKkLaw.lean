/- The law KeepKeeps: its walk. -/
import Derived.Test.YticplbnnmajcpaaKkP
set_option linter.unusedVariables false
set_option linter.unusedSimpArgs false
namespace Go.Proofs.Yticplbnnmajcpaa
open Go Go.RowKit Hv
theorem map_intH_take (l : List Int) (k : Nat) : (l.map intH).take k = (l.take k).map intH := by rw [List.map_take]
/-- A cell of noughts. -/
def zc : List AV := [.lit (.string ⟨#[]⟩), .lit (.int .i64 0), .lit (.int .i64 0), .lit (.string ⟨#[]⟩)]
theorem splice_zero {G : Nat} {z : List AV} {L : List (List AV)} (h : G = L.length + 2) : spliceL (List.replicate G z) 0 L = L ++ [z, z] := by
  unfold spliceL
  rw [h, List.take_zero, List.nil_append, Nat.zero_add, List.drop_replicate, Nat.add_sub_cancel_left]
  rfl
/-- A row that is filled up to a place. -/
def flk (x : List AV) (o : List (List AV)) (k : Nat) : List (List AV) := List.replicate k x ++ o.drop k
theorem flk_len {x : List AV} {o : List (List AV)} {k : Nat} : (flk x o k).length = max k o.length := by
  unfold flk; simp; omega
theorem flk_at {x : List AV} {o : List (List AV)} {k : Nat} : (flk x o k)[k]? = o[k]? := by
  unfold flk
  rw [List.getElem?_append_right (by simp), List.length_replicate, Nat.sub_self, List.getElem?_drop, Nat.add_zero]
theorem flk_set {x : List AV} {o : List (List AV)} {k : Nat} (h : k < o.length) : (flk x o k).set k x = flk x o (k + 1) := by
  unfold flk
  rw [List.set_append_right _ _ (by simp), List.length_replicate, Nat.sub_self, List.drop_eq_getElem_cons h, List.set_cons_zero, List.replicate_succ', List.append_assoc]
  rfl
theorem flk_more {x : List AV} {o : List (List AV)} {k : Nat} (h : o.length ≤ k) : flk x o k ++ [x] = flk x o (k + 1) := by
  unfold flk
  rw [List.drop_of_length_le h, List.drop_of_length_le (by omega), List.append_nil, List.append_nil, List.replicate_succ']
theorem flk_all {x : List AV} {o : List (List AV)} {k : Nat} (h : o.length ≤ k) : flk x o k = List.replicate k x := by
  unfold flk
  rw [List.drop_of_length_le h, List.append_nil]
theorem flk_zero {x : List AV} {o : List (List AV)} : flk x o 0 = o := rfl
/-- What is written into the piece at a place. -/
def cv (j : Nat) : List AV := [.lit (.string ⟨#[]⟩), .lit (.int .i64 0), .lit (.int .i64 0), .lit (.string (strOfNums [IntKind.u8.wrap (j : Int)]))]
/-- Pieces ahead of a place are written, the others are as they were. -/
def Filled (out : List (Nat × List CellD)) (f : Nat → Nat) (H : Hp) (i : Nat) : Prop := ∀ (j : Nat) (q : Nat × List CellD), out[j]? = some q → (j < i → H q.1 = some (.row true 35 (List.replicate (f j) (cv j)))) ∧ (i ≤ j → H q.1 = some (.row true 35 (q.2.map cellH)))
theorem nodup_at {out : List (Nat × List CellD)} (h : (out.map (·.1)).Nodup) {i j : Nat} {q r : Nat × List CellD} (hi : out[i]? = some q) (hj : out[j]? = some r) (e : q.1 = r.1) : i = j := by
  have h1 : (out.map (·.1))[i]? = some q.1 := by rw [List.getElem?_map, hi]; rfl
  have h2 : (out.map (·.1))[j]? = some q.1 := by rw [List.getElem?_map, hj, e]; rfl
  have hl1 := (List.getElem?_eq_some_iff.1 h1).1
  have hl2 := (List.getElem?_eq_some_iff.1 h2).1
  have hp := List.pairwise_iff_getElem.1 h
  rcases Nat.lt_trichotomy i j with hlt | heq | hgt
  · exact absurd ((List.getElem?_eq_some_iff.1 h1).2.trans (List.getElem?_eq_some_iff.1 h2).2.symm) (hp i j hl1 hl2 hlt)
  · exact heq
  · exact absurd ((List.getElem?_eq_some_iff.1 h2).2.trans (List.getElem?_eq_some_iff.1 h1).2.symm) (hp j i hl2 hl1 hgt)
theorem Filled.else {out : List (Nat × List CellD)} {f : Nat → Nat} {H H' : Hp} {i : Nat} (h : Filled out f H i) (he : ∀ (j : Nat) (q : Nat × List CellD), out[j]? = some q → H' q.1 = H q.1) : Filled out f H' i := fun j q hq => by rw [he j q hq]; exact h j q hq
/-- The law's memory behind the calls: what was handed in, the pieces, and how many of them are written. -/
structure KB (B Bz PI : List (List AV)) (p : Nat) (out : List (Nat × List CellD)) (f : Nat → Nat) (H : Hp) (i : Nat) : Prop where
  h0 : H 0 = some (.frz 35 B)
  h1 : H 1 = some (.frz 3 Bz)
  hp : H p = some (.row false 22 PI)
  hf : Filled out f H i
/-- Where it lies. -/
structure KN (p : Nat) (out : List (Nat × List CellD)) (m : Nat) : Prop where
  p3 : 3 ≤ p ∧ p < m
  q3 : ∀ (j : Nat) (q : Nat × List CellD), out[j]? = some q → 3 ≤ q.1 ∧ q.1 < m ∧ q.1 ≠ p
  nd : (out.map (·.1)).Nodup
section
variable {B Bz PI : List (List AV)} {p m i : Nat} {out : List (Nat × List CellD)} {f : Nat → Nat} {H H' : Hp}
theorem KB.same (h : KB B Bz PI p out f H i) (hn : KN p out m) (he : ∀ j, j < m → j ≠ 2 → H' j = H j) : KB B Bz PI p out f H' i := by
  obtain ⟨⟨a, b⟩, c, d⟩ := hn
  exact ⟨by rw [he 0 (by omega) (by decide)]; exact h.h0, by rw [he 1 (by omega) (by decide)]; exact h.h1, by rw [he p b (by omega)]; exact h.hp, h.hf.else fun j q hq => he q.1 (c j q hq).2.1 (by have := (c j q hq).1; omega)⟩
theorem KB.step (h : KB B Bz PI p out f H i) (hn : KN p out m) {q : Nat × List CellD} (hq : out[i]? = some q) (hnew : H' q.1 = some (.row true 35 (List.replicate (f i) (cv i)))) (he : ∀ j, j < m → j ≠ q.1 → H' j = H j) : KB B Bz PI p out f H' (i + 1) := by
  obtain ⟨⟨a, b⟩, c, d⟩ := hn
  obtain ⟨c1, c2, c3⟩ := c i q hq
  refine ⟨by rw [he 0 (by omega) (by omega)]; exact h.h0, by rw [he 1 (by omega) (by omega)]; exact h.h1, by rw [he p b (fun e => c3 e.symm)]; exact h.hp, fun j r hr => ?_⟩
  by_cases hj : j = i
  · subst hj
    rw [hq] at hr
    injection hr with hr
    subst hr
    exact ⟨fun _ => hnew, fun h => by omega⟩
  · have hne : r.1 ≠ q.1 := fun e => hj (nodup_at d hr hq e)
    rw [he r.1 (c j r hr).2.1 hne]
    exact ⟨fun h' => (h.hf j r hr).1 (by omega), fun h' => (h.hf j r hr).2 (by omega)⟩
end
theorem cut_count (hv : List CellD → Bool) : ∀ (gs : List (List CellD)) (now : List CellD), (cutP2 hv now gs).length ≤ gs.length + 1 := by
  intro gs
  induction gs with
  | nil => intro now; unfold cutP2; split <;> simp
  | cons g gs ih =>
    intro now
    unfold cutP2
    split
    · have := ih g; simp only [List.length_cons]; omega
    · have := ih (now ++ g); simp only [List.length_cons]; omega
theorem grp_count : ∀ l : List CellD, (grp l).length ≤ l.length := by
  intro l
  induction l with
  | nil => exact Nat.le_refl _
  | cons c l ih =>
    rw [grp]
    split
    · simp
    · rename_i g gs hg
      rw [hg] at ih
      simp only [List.length_cons] at ih
      split <;> simp only [List.length_cons] <;> omega
set_option maxRecDepth 20000 in
set_option maxHeartbeats 8000000 in
theorem KeepKeeps_h (l : List CellD) (looks : List Int) : ACalls Try.prog 3 [.sl (l.map cellH), .sl (looks.map intH)] (.lit (.bool true)) := by
  refine acallsC_of (rs := [.tmp 4]) ⟨[0, 1, 4, 5, 6, 7, 8, 9, 10, 11, 12, 13, 14, 15, 16, 17, 18, 19, 20, 22, 56, 66, 82, 96, 105, 120, 130, 138, 142, 153], [], [], [(16, [(0, [], []), (1, [], []), (2, [], []), (3, [], []), (4, [], []), (5, [], []), (6, [], []), (7, [], []), (8, [], []), (9, [], []), (10, [], [9, 0, 1, 2, 3, 4, 5, 6, 7, 8])]), (27, [(0, [], []), (1, [], []), (2, [], []), (3, [], []), (4, [], []), (5, [], []), (6, [], []), (7, [], []), (8, [], []), (9, [], []), (10, [], []), (11, [], []), (12, [], [])]), (38, [(0, [], []), (1, [], []), (2, [], []), (3, [], []), (4, [], []), (5, [], []), (6, [], []), (7, [], []), (8, [], [])])], [7,9,13,21,29,35], [33,39]⟩ TOk mixed Try.func3 rfl rfl (by kernel_rfl) (by kernel_rfl) rfl (by intro x hx; simp only [List.mem_cons, List.not_mem_nil, or_false] at hx; rcases hx with rfl | rfl; exact nid_cells l; exact nid_ints looks) (.lit _) ?_
  obtain ⟨s, hs⟩ : ∃ s, sortD l = s := ⟨_, rfl⟩
  have k1 := sort_h l
  have hsg := sort_good l
  rw [hs] at k1 hsg
  obtain ⟨hsr, hsl⟩ := hsg
  obtain ⟨z, hz⟩ : ∃ z, looks.take 20 = z := ⟨_, rfl⟩
  have hzl : z.length ≤ 20 := by rw [← hz]; exact List.length_take_le _ _
  obtain ⟨Z, hZ, hZl, hZz⟩ : ∃ Z : Nat, (if (20 : Int) < (looks.length : Int) then (20 : Int) else (looks.length : Int)) = (Z : Int) ∧ Z ≤ looks.length ∧ looks.take Z = z := by
    by_cases h : (20 : Int) < (looks.length : Int)
    · exact ⟨20, by rw [if_pos h]; rfl, by omega, hz⟩
    · exact ⟨looks.length, by rw [if_neg h], Nat.le_refl _, by rw [List.take_length, ← hz, List.take_of_length_le (by omega)]⟩
  obtain ⟨G, hG⟩ : ∃ G : Nat, G = s.length + 2 := ⟨_, rfl⟩
  have hGw : IntKind.i64.wrap ((s.length : Int) + 2) = (G : Int) := by rw [IntWalk.i64_in _ (by omega)]; omega
  obtain ⟨Y, hY⟩ : ∃ Y : Nat, Y = z.length + 2 := ⟨_, rfl⟩
  have hYw : IntKind.i64.wrap ((z.length : Int) + 2) = (Y : Int) := by rw [IntWalk.i64_in _ (by omega)]; omega
  have b1 : (48 : Int) * (G : Int) ≤ 140737488355328 := by omega
  have b2 : (8 : Int) * (Y : Int) ≤ 140737488355328 := by omega
  have b3 : 0 < G := by omega
  have b4 : 0 < Y := by omega
  have b5 : s.length ≤ G := by omega
  have b6 : z.length ≤ Y := by omega
  simp only [push_cast, Nat.reduceBEq, Nat.reduceAdd, Nat.reduceEqDiff, reduceCtorEq, Nat.reduceLeDiff, Nat.reduceSub, Nat.reduceMul, Nat.reduceLT, Int.reduceEq, Int.reduceLT, Int.reduceLE, Int.reduceBEq, Int.reduceBNe, Int.reduceToNat, Int.reduceNeg, Int.reduceSub, Int.reduceAdd]
  refine callK spares_h ?_
  simp only [push_cast, Nat.reduceBEq, Nat.reduceAdd, Nat.reduceEqDiff, reduceCtorEq, Nat.reduceLeDiff, Nat.reduceSub, Nat.reduceMul, Nat.reduceLT, Int.reduceEq, Int.reduceLT, Int.reduceLE, Int.reduceBEq, Int.reduceBNe, Int.reduceToNat, Int.reduceNeg, Int.reduceSub, Int.reduceAdd]
  refine callK k1 ?_
  simp only [push_cast, Nat.reduceBEq, Nat.reduceAdd, Nat.reduceEqDiff, reduceCtorEq, Nat.reduceLeDiff, Nat.reduceSub, Nat.reduceMul, Nat.reduceLT, Int.reduceEq, Int.reduceLT, Int.reduceLE, Int.reduceBEq, Int.reduceBNe, Int.reduceToNat, Int.reduceNeg, Int.reduceSub, Int.reduceAdd, hZ, hZl, hGw, hYw, b1, b2, b3, b4, b5, b6, map_intH_take, hZz, List.length_replicate, cellH_len, intH_len]
  refine cutG (fun st => ∃ H, H 0 = some (.row true 35 (s.map cellH ++ [zc, zc])) ∧ H 1 = some (.row true 3 (z.map intH ++ [intH 0, intH 0])) ∧ st = ⟨[(1, .sl (z.map intH)), (5, .sl (s.map cellH)), (6, .rc 0 4 s.length G), (7, .rc 1 1 z.length Y)], H, 2⟩) [1, 5, 6, 7] ?_ ?_
  · simp only [push_cast, Nat.reduceBEq, Nat.reduceAdd, Nat.reduceEqDiff, reduceCtorEq, Nat.reduceLeDiff, Nat.reduceSub, Nat.reduceMul, Nat.reduceLT, Int.reduceEq, Int.reduceLT, Int.reduceLE, Int.reduceBEq, Int.reduceBNe, Int.reduceToNat, Int.reduceNeg, Int.reduceSub, Int.reduceAdd, hZ, hZl, hGw, hYw, b1, b2, b3, b4, b5, b6, map_intH_take, hZz, List.length_replicate, cellH_len, intH_len]
    exact ⟨_, (by rw [splice_zero (G := G) (L := s.map cellH) (by rw [List.length_map]; exact hG)]; rfl), (by rw [splice_zero (G := Y) (L := z.map intH) (by rw [List.length_map]; exact hY)]; rfl), rfl⟩
  rintro _ ⟨H, h0, h1, rfl⟩
  refine Gh.bind (gh_shut (K := fun t => t = _) h0 (by simp) rfl) ?_
  rintro _ rfl
  refine gh_shut (id := 1) (m := true) (e := 3) (items := z.map intH ++ [intH 0, intH 0]) h1 (by simp) ?_
  obtain ⟨B, hB⟩ : ∃ B, s.map cellH ++ [zc, zc] = B := ⟨_, rfl⟩
  obtain ⟨Bz, hBz⟩ : ∃ B, z.map intH ++ [intH 0, intH 0] = B := ⟨_, rfl⟩
  have hBl : B.length = G := by rw [← hB, hG]; simp
  have hBzl : Bz.length = Y := by rw [← hBz, hY]; simp
  have hBt : B.take s.length = s.map cellH := by rw [← hB]; exact List.take_left' (by simp)
  have hBzt : Bz.take z.length = z.map intH := by rw [← hBz]; exact List.take_left' (by simp)
  have hBb : Nat.ble s.length B.length = true := by rw [hBl]; exact Nat.ble_eq_true_of_le b5
  have hBzb : Nat.ble z.length Bz.length = true := by rw [hBzl]; exact Nat.ble_eq_true_of_le b6
  have hB0 : ∀ k, s.length ≤ k → k < G → B[k]? = some zc := fun k h1 h2 => by
    rw [← hB, List.getElem?_append_right (by simpa using h1), List.length_map]
    have : k - s.length = 0 ∨ k - s.length = 1 := by omega
    rcases this with e | e <;> rw [e] <;> rfl
  have hBz0 : ∀ (k : Nat) (x : Int), z[k]? = some x → Bz[k]? = some (intH x) := fun k x hx => by
    have hlt := (List.getElem?_eq_some_iff.1 hx).1
    rw [← hBz, List.getElem?_append_left (by simpa using hlt), List.getElem?_map, hx]; rfl
  rw [hB, hBz]
  simp only [push_cast, Nat.reduceBEq, Nat.reduceAdd, Nat.reduceEqDiff, reduceCtorEq, Nat.reduceLeDiff, Nat.reduceSub, Nat.reduceMul, Nat.reduceLT, Int.reduceEq, Int.reduceLT, Int.reduceLE, Int.reduceBEq, Int.reduceBNe, Int.reduceToNat, Int.reduceNeg, Int.reduceSub, Int.reduceAdd]
  generalize hH2 : upd (upd H 0 (some (.frz 35 B))) 1 (some (.frz 3 Bz)) = H2
  have g0 : H2 0 = some (.frz 35 B) := by rw [← hH2, upd_other (by decide)]; exact upd_same _ _ _
  have g1 : H2 1 = some (.frz 3 Bz) := by rw [← hH2]; exact upd_same _ _ _
  clear hH2 h0 h1 H hB hBz
  refine callH (HCalls.seen (by simp only [push_cast, Nat.reduceBEq, Nat.reduceAdd, Nat.reduceEqDiff, reduceCtorEq, Nat.reduceLeDiff, Nat.reduceSub, Nat.reduceMul, Nat.reduceLT, Int.reduceEq, Int.reduceLT, Int.reduceLE, Int.reduceBEq, Int.reduceBNe, Int.reduceToNat, Int.reduceNeg, Int.reduceSub, Int.reduceAdd, g0, g1, hBb, hBzb, hBt, hBzt]; exact keep_h s z hsr (by omega) (by omega))) ?_
  rintro _ _ _ ⟨L, hL4, hLl, rfl, rfl, rfl⟩
  simp only [push_cast, Nat.reduceBEq, Nat.reduceAdd, Nat.reduceEqDiff, reduceCtorEq, Nat.reduceLeDiff, Nat.reduceSub, Nat.reduceMul, Nat.reduceLT, Int.reduceEq, Int.reduceLT, Int.reduceLE, Int.reduceBEq, Int.reduceBNe, Int.reduceToNat, Int.reduceNeg, Int.reduceSub, Int.reduceAdd]
  generalize hH3 : upd H2 2 (some (.row true 35 L)) = H3
  have e0 : H3 0 = some (.frz 35 B) := by rw [← hH3, upd_other (by decide)]; exact g0
  have e1 : H3 1 = some (.frz 3 Bz) := by rw [← hH3, upd_other (by decide)]; exact g1
  have e2 : H3 2 = some (.row true 35 L) := by rw [← hH3]; exact upd_same _ _ _
  clear hH3 g0 g1 H2
  refine cutG (fun st => ∃ (H : Hp) (m p : Nat) (out : List (Nat × List CellD)) (c : Nat), c = out.length ∧ CutO H3 3 H m p out ∧ out.map (·.2) = cutP2 (heavy 3) [] (grp s) ∧ st = ⟨[(1, .sl (z.map intH)), (5, .sl (s.map cellH)), (6, .rc 0 4 s.length G), (7, .rc 1 1 z.length Y), (8, .rw 2 4 0 L.length), (9, .lit (.int .i64 0)), (10, .rw p 1 0 c), (11, .lit (.int .i64 0))], H, m⟩) [1, 5, 6, 7, 8, 9, 10, 11] ?_ ?_
  · simp only [push_cast, Nat.reduceBEq, Nat.reduceAdd, Nat.reduceEqDiff, reduceCtorEq, Nat.reduceLeDiff, Nat.reduceSub, Nat.reduceMul, Nat.reduceLT, Int.reduceEq, Int.reduceLT, Int.reduceLE, Int.reduceBEq, Int.reduceBNe, Int.reduceToNat, Int.reduceNeg, Int.reduceSub, Int.reduceAdd]
    refine callH (HCalls.seen (by simp only [push_cast, Nat.reduceBEq, Nat.reduceAdd, Nat.reduceEqDiff, reduceCtorEq, Nat.reduceLeDiff, Nat.reduceSub, Nat.reduceMul, Nat.reduceLT, Int.reduceEq, Int.reduceLT, Int.reduceLE, Int.reduceBEq, Int.reduceBNe, Int.reduceToNat, Int.reduceNeg, Int.reduceSub, Int.reduceAdd, e0, hBb, hBt]; exact Cut_h s hsr (by omega))) ?_
    rintro _ H m ⟨p, out, rfl, hO, hcut⟩
    simp only [push_cast, Nat.reduceBEq, Nat.reduceAdd, Nat.reduceEqDiff, reduceCtorEq, Nat.reduceLeDiff, Nat.reduceSub, Nat.reduceMul, Nat.reduceLT, Int.reduceEq, Int.reduceLT, Int.reduceLE, Int.reduceBEq, Int.reduceBNe, Int.reduceToNat, Int.reduceNeg, Int.reduceSub, Int.reduceAdd]
    exact ⟨_, _, _, out, _, rfl, hO, hcut, rfl⟩
  rintro _ ⟨H, m, p, out, _, rfl, hO, hcut, rfl⟩
  have hol : out.length ≤ 1000 := by
    have h1 := cut_count (heavy 3) (grp s) []
    rw [← hcut, List.length_map] at h1
    have h2 := grp_count s
    omega
  refine gh_caps (id := p) (m := false) (e := 22) (xs := out.map pcA) (by rw [List.map_map]; exact hO.hp) ?_
  intro f hf
  obtain ⟨PI, hPI⟩ : ∃ PI : List (List AV), (((out.map pcA).mapIdx fun j x => withCap (f j) x).map fun x => [x]) = PI := ⟨_, rfl⟩
  rw [hPI]
  have hPIl : PI.length = out.length := by rw [← hPI]; simp
  have hPIt : PI.take out.length = PI := List.take_of_length_le (by omega)
  have hPIa : ∀ (j : Nat) (q : Nat × List CellD), out[j]? = some q → PI[j]? = some [.rc q.1 4 q.2.length (f j)] := fun j q hq => by
    rw [← hPI, List.getElem?_map, List.getElem?_mapIdx, List.getElem?_map, hq]; rfl
  have hfc : ∀ (j : Nat) (q : Nat × List CellD), out[j]? = some q → q.2.length ≤ f j ∧ f j ≤ maxLen := fun j q hq => hf j (pcA q) (by rw [List.getElem?_map, hq]; rfl)
  clear hPI hf
  have hpq : ∀ (j : Nat) (q : Nat × List CellD), out[j]? = some q → q.1 ≠ p := fun j q hq e => by
    have h1 := (hO.hq q (List.mem_of_getElem? hq)).1
    rw [e, hO.hp] at h1
    injection h1 with h1
    injection h1 with h1
    cases h1
  have hN : KN p out m := ⟨hO.bp, fun j q hq => ⟨(hO.hq q (List.mem_of_getElem? hq)).2.1, (hO.hq q (List.mem_of_getElem? hq)).2.2, hpq j q hq⟩, hO.nd⟩
  simp only [push_cast, Nat.reduceBEq, Nat.reduceAdd, Nat.reduceEqDiff, reduceCtorEq, Nat.reduceLeDiff, Nat.reduceSub, Nat.reduceMul, Nat.reduceLT, Int.reduceEq, Int.reduceLT, Int.reduceLE, Int.reduceBEq, Int.reduceBNe, Int.reduceToNat, Int.reduceNeg, Int.reduceSub, Int.reduceAdd]
  generalize hH4 : upd H p (some (.row false 22 PI)) = H4
  have b3 : 3 ≤ p := hO.bp.1
  have q2 : H4 2 = some (.row true 35 L) := by rw [← hH4, upd_other (by omega), hO.old 2 (by decide)]; exact e2
  have K4 : KB B Bz PI p out f H4 0 := ⟨by rw [← hH4, upd_other (by omega), hO.old 0 (by decide)]; exact e0, by rw [← hH4, upd_other (by omega), hO.old 1 (by decide)]; exact e1, by rw [← hH4]; exact upd_same _ _ _,
    fun j q hq => ⟨fun h => absurd h (Nat.not_lt_zero _), fun _ => by rw [← hH4, upd_other (fun e => hpq j q hq e.symm)]; exact (hO.hq q (List.mem_of_getElem? hq)).1⟩⟩
  clear hH4 e0 e1 e2 hO hcut H H3 hpq
  refine cutK (fun st => ∃ H, KB B Bz PI p out f H 0 ∧ st = ⟨[(1, .sl (z.map intH)), (5, .sl (s.map cellH)), (6, .rc 0 4 s.length G), (7, .rc 1 1 z.length Y), (9, .lit (.int .i64 0)), (10, .rw p 1 0 out.length), (11, .lit (.int .i64 0))], H, m⟩) [1, 5, 6, 7, 9, 10, 11] ?_ ?_
  · simp only [push_cast, Nat.reduceBEq, Nat.reduceAdd, Nat.reduceEqDiff, reduceCtorEq, Nat.reduceLeDiff, Nat.reduceSub, Nat.reduceMul, Nat.reduceLT, Int.reduceEq, Int.reduceLT, Int.reduceLE, Int.reduceBEq, Int.reduceBNe, Int.reduceToNat, Int.reduceNeg, Int.reduceSub, Int.reduceAdd]
    refine loopK (fun n st => ∃ (i : Nat) (L' : List (List AV)) (H : Hp), i ≤ L.length ∧ L'.length = L.length ∧ (∀ it ∈ L', it.length = 4) ∧ H 2 = some (.row true 35 L') ∧ (∀ j, j < m → j ≠ 2 → H j = H4 j) ∧ n = L.length - i ∧ st = ⟨[(1, .sl (z.map intH)), (5, .sl (s.map cellH)), (6, .rc 0 4 s.length G), (7, .rc 1 1 z.length Y), (8, .rw 2 4 0 L.length), (9, .lit (.int .i64 0)), (10, .rw p 1 0 out.length), (11, .lit (.int .i64 0)), (12, .lit (.int .i64 i))], H, m⟩)
      _ [1, 5, 6, 7, 8, 9, 10, 11, 12] ⟨0, L, H4, Nat.zero_le _, rfl, hL4, q2, fun _ _ _ => rfl, rfl, rfl⟩ ?_
    rintro n _ ⟨i, L', H, hi, hl', h4', hH2, hHo, rfl, rfl⟩
    by_cases h : i < L.length
    · obtain ⟨it, hit⟩ : ∃ it, L'[i]? = some it := ⟨_, List.getElem?_eq_getElem (by omega)⟩
      have hil : it.length = 4 := h4' it (List.mem_of_getElem? hit)
      have hw := wrap_nat (k := i) (by omega)
      simp only [push_cast, Nat.reduceBEq, Nat.reduceAdd, Nat.reduceEqDiff, reduceCtorEq, Nat.reduceLeDiff, Nat.reduceSub, Nat.reduceMul, Nat.reduceLT, Int.reduceEq, Int.reduceLT, Int.reduceLE, Int.reduceBEq, Int.reduceBNe, Int.reduceToNat, Int.reduceNeg, Int.reduceSub, Int.reduceAdd, h, hit, hil, hH2, hw]
      refine ⟨_, by omega, i + 1, _, _, by omega, ?_, ?_, upd_same _ _ _, fun j hj hj2 => by rw [upd_other (fun e => hj2 e.symm)]; exact hHo j hj hj2, rfl, rfl⟩
      · rw [List.length_set]; exact hl'
      · intro it' hm
        rcases List.mem_or_eq_of_mem_set hm with hm | hm
        · exact h4' it' hm
        · rw [hm]; simp [hil]
    · obtain rfl : i = L.length := by omega
      simp only [push_cast, Nat.reduceBEq, Nat.reduceAdd, Nat.reduceEqDiff, reduceCtorEq, Nat.reduceLeDiff, Nat.reduceSub, Nat.reduceMul, Nat.reduceLT, Int.reduceEq, Int.reduceLT, Int.reduceLE, Int.reduceBEq, Int.reduceBNe, Int.reduceToNat, Int.reduceNeg, Int.reduceSub, Int.reduceAdd, h]
      exact ⟨H, K4.same hN hHo, rfl⟩
  rintro _ ⟨H, KH, rfl⟩
  clear K4 q2 H4 hL4 hLl L
  refine cutK (fun st => ∃ H m, KB B Bz PI p out f H out.length ∧ st = ⟨[(1, .sl (z.map intH)), (5, .sl (s.map cellH)), (6, .rc 0 4 s.length G), (7, .rc 1 1 z.length Y), (9, .lit (.int .i64 0)), (10, .rw p 1 0 out.length), (11, .lit (.int .i64 0))], H, m⟩) [1, 5, 6, 7, 9, 10, 11] ?_ ?_
  · simp only [push_cast, Nat.reduceBEq, Nat.reduceAdd, Nat.reduceEqDiff, reduceCtorEq, Nat.reduceLeDiff, Nat.reduceSub, Nat.reduceMul, Nat.reduceLT, Int.reduceEq, Int.reduceLT, Int.reduceLE, Int.reduceBEq, Int.reduceBNe, Int.reduceToNat, Int.reduceNeg, Int.reduceSub, Int.reduceAdd]
    refine loopK (fun n st => ∃ (i : Nat) (H : Hp) (m' : Nat), m ≤ m' ∧ i ≤ out.length ∧ KB B Bz PI p out f H i ∧ n = out.length - i ∧ st = ⟨[(1, .sl (z.map intH)), (5, .sl (s.map cellH)), (6, .rc 0 4 s.length G), (7, .rc 1 1 z.length Y), (9, .lit (.int .i64 0)), (10, .rw p 1 0 out.length), (11, .lit (.int .i64 0)), (13, .lit (.int .i64 i))], H, m'⟩)
      _ [1, 5, 6, 7, 9, 10, 11, 13] ⟨0, H, m, Nat.le_refl _, Nat.zero_le _, KH, rfl, rfl⟩ ?_
    clear KH H
    rintro n _ ⟨i, H, m', hm', hi, KH, rfl, rfl⟩
    by_cases h : i < out.length
    · obtain ⟨q, hq⟩ : ∃ q, out[i]? = some q := ⟨_, List.getElem?_eq_getElem h⟩
      have hw := wrap_nat (k := i) (by omega)
      have hp := KH.hp
      have ha := hPIa i q hq
      have hqH := (KH.hf i q hq).2 (Nat.le_refl _)
      obtain ⟨hfl, hfm⟩ := hfc i q hq
      obtain ⟨n3, nm, nep⟩ := hN.q3 i q hq
      simp only [maxLen] at hfm
      simp only [push_cast, Nat.reduceBEq, Nat.reduceAdd, Nat.reduceEqDiff, reduceCtorEq, Nat.reduceLeDiff, Nat.reduceSub, Nat.reduceMul, Nat.reduceLT, Int.reduceEq, Int.reduceLT, Int.reduceLE, Int.reduceBEq, Int.reduceBNe, Int.reduceToNat, Int.reduceNeg, Int.reduceSub, Int.reduceAdd, h, hp, hPIl, hPIt, ha]
      refine loopK (fun n st => ∃ (k : Nat) (H' : Hp) (m2 : Nat), m' ≤ m2 ∧ k ≤ f i ∧ H' q.1 = some (.row true 35 (flk (cv i) (q.2.map cellH) k)) ∧ (∀ j, j < m → j ≠ q.1 → H' j = H j) ∧ n = f i - k ∧ st = ⟨[(1, .sl (z.map intH)), (5, .sl (s.map cellH)), (6, .rc 0 4 s.length G), (7, .rc 1 1 z.length Y), (9, .lit (.int .i64 0)), (10, .rw p 1 0 out.length), (11, .lit (.int .i64 0)), (13, .lit (.int .i64 i)), (14, .rc q.1 4 (f i) (f i)), (15, .lit (.int .i64 k))], H', m2⟩)
        _ [1, 5, 6, 7, 9, 10, 11, 13, 14, 15] ⟨0, H, m', Nat.le_refl _, Nat.zero_le _, hqH, fun _ _ _ => rfl, rfl, rfl⟩ ?_
      rintro n _ ⟨k, H', m2, hm2, hk, hq', hHo, rfl, rfl⟩
      by_cases hkf : k < f i
      · have hwk := wrap_nat (k := k) (by omega)
        have hmq : (m2 == q.1) = false := neB (by omega)
        by_cases hko : k < (q.2.map cellH).length
        · obtain ⟨c, hc⟩ : ∃ c, q.2[k]? = some c := ⟨_, List.getElem?_eq_getElem (by simpa using hko)⟩
          have hbl : Nat.blt k (flk (cv i) (q.2.map cellH) k).length = true := by
            rw [flk_len]; exact Nat.ble_eq_true_of_le (by omega)
          have hat : (flk (cv i) (q.2.map cellH) k)[k]? = some [.lit (.string c.key), .lit (.int .i64 c.seq), .lit (.int .i64 c.kind), .lit (.string c.val)] := by rw [flk_at, List.getElem?_map, hc]; rfl
          have hset := flk_set (x := cv i) hko
          simp only [push_cast, Nat.reduceBEq, Nat.reduceAdd, Nat.reduceEqDiff, reduceCtorEq, Nat.reduceLeDiff, Nat.reduceSub, Nat.reduceMul, Nat.reduceLT, Int.reduceEq, Int.reduceLT, Int.reduceLE, Int.reduceBEq, Int.reduceBNe, Int.reduceToNat, Int.reduceNeg, Int.reduceSub, Int.reduceAdd, hkf, hq', hbl, hat, hwk, hmq, bytesOf]
          exact ⟨_, by omega, k + 1, _, _, by omega, by omega, (by rw [upd_same]; exact congrArg (fun l => some (AO.row true 35 l)) hset), fun j hj hjq => by rw [upd_other (fun e => hjq e.symm), upd_other (by omega)]; exact hHo j hj hjq, rfl, rfl⟩
        · have hlk : (flk (cv i) (q.2.map cellH) k).length = k := by rw [flk_len]; omega
          have hbl : Nat.blt k k = false := by rw [← Bool.not_eq_true]; intro h'; exact absurd (Nat.le_of_ble_eq_true h') (by omega)
          have hmore := flk_more (x := cv i) (Nat.le_of_not_lt hko)
          simp only [push_cast, Nat.reduceBEq, Nat.reduceAdd, Nat.reduceEqDiff, reduceCtorEq, Nat.reduceLeDiff, Nat.reduceSub, Nat.reduceMul, Nat.reduceLT, Int.reduceEq, Int.reduceLT, Int.reduceLE, Int.reduceBEq, Int.reduceBNe, Int.reduceToNat, Int.reduceNeg, Int.reduceSub, Int.reduceAdd, hkf, hq', hlk, hbl, hwk, hmq, bytesOf]
          exact ⟨_, by omega, k + 1, _, _, by omega, by omega, (by rw [upd_same]; exact congrArg (fun l => some (AO.row true 35 l)) hmore), fun j hj hjq => by rw [upd_other (fun e => hjq e.symm), upd_other (by omega)]; exact hHo j hj hjq, rfl, rfl⟩
      · obtain rfl : k = f i := by omega
        simp only [push_cast, Nat.reduceBEq, Nat.reduceAdd, Nat.reduceEqDiff, reduceCtorEq, Nat.reduceLeDiff, Nat.reduceSub, Nat.reduceMul, Nat.reduceLT, Int.reduceEq, Int.reduceLT, Int.reduceLE, Int.reduceBEq, Int.reduceBNe, Int.reduceToNat, Int.reduceNeg, Int.reduceSub, Int.reduceAdd, hkf, hw]
        refine ⟨_, by omega, i + 1, _, _, by omega, by omega, KH.step hN hq ?_ hHo, rfl, rfl⟩
        rw [hq', flk_all (by rw [List.length_map]; exact hfl)]
    · obtain rfl : i = out.length := by omega
      simp only [push_cast, Nat.reduceBEq, Nat.reduceAdd, Nat.reduceEqDiff, reduceCtorEq, Nat.reduceLeDiff, Nat.reduceSub, Nat.reduceMul, Nat.reduceLT, Int.reduceEq, Int.reduceLT, Int.reduceLE, Int.reduceBEq, Int.reduceBNe, Int.reduceToNat, Int.reduceNeg, Int.reduceSub, Int.reduceAdd, h]
      exact ⟨H, _, KH, rfl⟩
  rintro _ ⟨H, m3, KH', rfl⟩
  clear KH
  refine cutK (fun st => ∃ H m, KB B Bz PI p out f H out.length ∧ st = ⟨[(1, .sl (z.map intH)), (5, .sl (s.map cellH)), (6, .rc 0 4 s.length G), (7, .rc 1 1 z.length Y), (9, .lit (.int .i64 0)), (11, .lit (.int .i64 0))], H, m⟩) [1, 5, 6, 7, 9, 11] ?_ ?_
  · simp only [push_cast, Nat.reduceBEq, Nat.reduceAdd, Nat.reduceEqDiff, reduceCtorEq, Nat.reduceLeDiff, Nat.reduceSub, Nat.reduceMul, Nat.reduceLT, Int.reduceEq, Int.reduceLT, Int.reduceLE, Int.reduceBEq, Int.reduceBNe, Int.reduceToNat, Int.reduceNeg, Int.reduceSub, Int.reduceAdd]
    refine loopK (fun n st => ∃ (i : Nat), i ≤ out.length ∧ n = out.length - i ∧ st = ⟨[(1, .sl (z.map intH)), (5, .sl (s.map cellH)), (6, .rc 0 4 s.length G), (7, .rc 1 1 z.length Y), (9, .lit (.int .i64 0)), (10, .rw p 1 0 out.length), (11, .lit (.int .i64 0)), (16, .lit (.int .i64 i))], H, m3⟩)
      _ [1, 5, 6, 7, 9, 10, 11, 16] ⟨0, Nat.zero_le _, rfl, rfl⟩ ?_
    rintro n _ ⟨i, hi, rfl, rfl⟩
    by_cases h : i < out.length
    · obtain ⟨q, hq⟩ : ∃ q, out[i]? = some q := ⟨_, List.getElem?_eq_getElem h⟩
      have hw := wrap_nat (k := i) (by omega)
      have hp := KH'.hp
      have ha := hPIa i q hq
      have hqH := (KH'.hf i q hq).1 h
      obtain ⟨hfl, hfm⟩ := hfc i q hq
      simp only [maxLen] at hfm
      simp only [push_cast, Nat.reduceBEq, Nat.reduceAdd, Nat.reduceEqDiff, reduceCtorEq, Nat.reduceLeDiff, Nat.reduceSub, Nat.reduceMul, Nat.reduceLT, Int.reduceEq, Int.reduceLT, Int.reduceLE, Int.reduceBEq, Int.reduceBNe, Int.reduceToNat, Int.reduceNeg, Int.reduceSub, Int.reduceAdd, h, hp, hPIl, hPIt, ha]
      refine loopK (fun n st => ∃ (k : Nat), k ≤ q.2.length ∧ n = q.2.length - k ∧ st = ⟨[(1, .sl (z.map intH)), (5, .sl (s.map cellH)), (6, .rc 0 4 s.length G), (7, .rc 1 1 z.length Y), (9, .lit (.int .i64 0)), (10, .rw p 1 0 out.length), (11, .lit (.int .i64 0)), (16, .lit (.int .i64 i)), (17, .lit (.int .i64 k))], H, m3⟩)
        _ [1, 5, 6, 7, 9, 10, 11, 16, 17] ⟨0, Nat.zero_le _, rfl, rfl⟩ ?_
      rintro n _ ⟨k, hk, rfl, rfl⟩
      by_cases hkf : k < q.2.length
      · have hwk := wrap_nat (k := k) (by omega)
        have hbl : Nat.blt k (List.replicate (f i) (cv i)).length = true := by
          rw [List.length_replicate]; exact Nat.ble_eq_true_of_le (by omega)
        have hat : (List.replicate (f i) (cv i))[k]? = some (cv i) := by rw [List.getElem?_replicate, if_pos (by omega)]
        have hsx : ((strOfNums [IntKind.u8.wrap (i : Int)]).toList == (strOfNums [IntKind.u8.wrap (i : Int)]).toList) = true := beq_self_eq_true _
        unfold cv at hat hbl hqH
        simp only [push_cast, Nat.reduceBEq, Nat.reduceAdd, Nat.reduceEqDiff, reduceCtorEq, Nat.reduceLeDiff, Nat.reduceSub, Nat.reduceMul, Nat.reduceLT, Int.reduceEq, Int.reduceLT, Int.reduceLE, Int.reduceBEq, Int.reduceBNe, Int.reduceToNat, Int.reduceNeg, Int.reduceSub, Int.reduceAdd, h, hp, hPIl, hPIt, ha, hkf, hqH, hbl, hat, hwk, hsx, bytesOf]
        exact ⟨_, by omega, k + 1, by omega, rfl, rfl⟩
      · obtain rfl : k = q.2.length := by omega
        simp only [push_cast, Nat.reduceBEq, Nat.reduceAdd, Nat.reduceEqDiff, reduceCtorEq, Nat.reduceLeDiff, Nat.reduceSub, Nat.reduceMul, Nat.reduceLT, Int.reduceEq, Int.reduceLT, Int.reduceLE, Int.reduceBEq, Int.reduceBNe, Int.reduceToNat, Int.reduceNeg, Int.reduceSub, Int.reduceAdd, h, hp, hPIl, hPIt, ha, hkf, hw]
        exact ⟨_, by omega, i + 1, by omega, rfl, rfl⟩
    · obtain rfl : i = out.length := by omega
      have hp := KH'.hp
      simp only [push_cast, Nat.reduceBEq, Nat.reduceAdd, Nat.reduceEqDiff, reduceCtorEq, Nat.reduceLeDiff, Nat.reduceSub, Nat.reduceMul, Nat.reduceLT, Int.reduceEq, Int.reduceLT, Int.reduceLE, Int.reduceBEq, Int.reduceBNe, Int.reduceToNat, Int.reduceNeg, Int.reduceSub, Int.reduceAdd, h, hp, hPIl]
      exact ⟨H, _, KH', rfl⟩
  rintro _ ⟨H, m4, KH, rfl⟩
  clear KH' m3
  have h0 := KH.h0
  have h1 := KH.h1
  simp only [push_cast, Nat.reduceBEq, Nat.reduceAdd, Nat.reduceEqDiff, reduceCtorEq, Nat.reduceLeDiff, Nat.reduceSub, Nat.reduceMul, Nat.reduceLT, Int.reduceEq, Int.reduceLT, Int.reduceLE, Int.reduceBEq, Int.reduceBNe, Int.reduceToNat, Int.reduceNeg, Int.reduceSub, Int.reduceAdd, Int.le_refl]
  refine cutK (fun st => st = ⟨[(1, .sl (z.map intH)), (5, .sl (s.map cellH)), (6, .rc 0 4 s.length G), (7, .rc 1 1 z.length Y), (9, .lit (.int .i64 0)), (11, .lit (.int .i64 0))], H, m4⟩) [1, 5, 6, 7, 9, 11] ?_ ?_
  · simp only [push_cast, Nat.reduceBEq, Nat.reduceAdd, Nat.reduceEqDiff, reduceCtorEq, Nat.reduceLeDiff, Nat.reduceSub, Nat.reduceMul, Nat.reduceLT, Int.reduceEq, Int.reduceLT, Int.reduceLE, Int.reduceBEq, Int.reduceBNe, Int.reduceToNat, Int.reduceNeg, Int.reduceSub, Int.reduceAdd]
    refine loopK (fun n st => ∃ (i : Nat), s.length ≤ i ∧ i ≤ G ∧ n = G - i ∧ st = ⟨[(1, .sl (z.map intH)), (5, .sl (s.map cellH)), (6, .rc 0 4 s.length G), (7, .rc 1 1 z.length Y), (9, .lit (.int .i64 0)), (11, .lit (.int .i64 0)), (18, .rc 0 4 G G), (19, .lit (.int .i64 i))], H, m4⟩)
      _ [1, 5, 6, 7, 9, 11, 18, 19] ⟨s.length, Nat.le_refl _, b5, rfl, rfl⟩ ?_
    rintro n _ ⟨i, hi, hiG, rfl, rfl⟩
    have hBg : B.take G = B := List.take_of_length_le (by omega)
    have hBG : Nat.ble G B.length = true := by rw [hBl]; exact Nat.ble_self_eq_true G
    by_cases h : i < G
    · have hw := wrap_nat (k := i) (by omega)
      have hat := hB0 i hi h
      unfold zc at hat
      simp only [push_cast, Nat.reduceBEq, Nat.reduceAdd, Nat.reduceEqDiff, reduceCtorEq, Nat.reduceLeDiff, Nat.reduceSub, Nat.reduceMul, Nat.reduceLT, Int.reduceEq, Int.reduceLT, Int.reduceLE, Int.reduceBEq, Int.reduceBNe, Int.reduceToNat, Int.reduceNeg, Int.reduceSub, Int.reduceAdd, h, h0, hBG, hBg, hat, hw]
      exact ⟨_, by omega, i + 1, by omega, by omega, rfl, rfl⟩
    · obtain rfl : i = G := by omega
      simp only [push_cast, Nat.reduceBEq, Nat.reduceAdd, Nat.reduceEqDiff, reduceCtorEq, Nat.reduceLeDiff, Nat.reduceSub, Nat.reduceMul, Nat.reduceLT, Int.reduceEq, Int.reduceLT, Int.reduceLE, Int.reduceBEq, Int.reduceBNe, Int.reduceToNat, Int.reduceNeg, Int.reduceSub, Int.reduceAdd, h, h0, hBG, hBg]
  rintro _ rfl
  simp only [push_cast, Nat.reduceBEq, Nat.reduceAdd, Nat.reduceEqDiff, reduceCtorEq, Nat.reduceLeDiff, Nat.reduceSub, Nat.reduceMul, Nat.reduceLT, Int.reduceEq, Int.reduceLT, Int.reduceLE, Int.reduceBEq, Int.reduceBNe, Int.reduceToNat, Int.reduceNeg, Int.reduceSub, Int.reduceAdd]
  refine loopK (fun n st => ∃ (i : Nat), i ≤ z.length ∧ n = z.length - i ∧ st = ⟨[(1, .sl (z.map intH)), (5, .sl (s.map cellH)), (6, .rc 0 4 s.length G), (7, .rc 1 1 z.length Y), (9, .lit (.int .i64 0)), (11, .lit (.int .i64 0)), (20, .lit (.int .i64 i))], H, m4⟩)
    _ [1, 5, 6, 7, 9, 11, 20] ⟨0, Nat.zero_le _, rfl, rfl⟩ ?_
  rintro n _ ⟨i, hi, rfl, rfl⟩
  have hzb : (List.map intH z).length = z.length := List.length_map ..
  by_cases h : i < z.length
  · obtain ⟨x, hx⟩ : ∃ x, z[i]? = some x := ⟨_, List.getElem?_eq_getElem h⟩
    have hw := wrap_nat (k := i) (by omega)
    have hat : ((z.map intH)[i]?) = some [.lit (.int .i64 x)] := by rw [List.getElem?_map, hx]; rfl
    have hxx : (x != x) = false := by simp
    simp only [push_cast, Nat.reduceBEq, Nat.reduceAdd, Nat.reduceEqDiff, reduceCtorEq, Nat.reduceLeDiff, Nat.reduceSub, Nat.reduceMul, Nat.reduceLT, Int.reduceEq, Int.reduceLT, Int.reduceLE, Int.reduceBEq, Int.reduceBNe, Int.reduceToNat, Int.reduceNeg, Int.reduceSub, Int.reduceAdd, h, h1, hBzb, hBzt, hat, hw, hxx, hx, intH]
    exact ⟨_, by omega, i + 1, by omega, rfl, rfl⟩
  · obtain rfl : i = z.length := by omega
    simp only [push_cast, Nat.reduceBEq, Nat.reduceAdd, Nat.reduceEqDiff, reduceCtorEq, Nat.reduceLeDiff, Nat.reduceSub, Nat.reduceMul, Nat.reduceLT, Int.reduceEq, Int.reduceLT, Int.reduceLE, Int.reduceBEq, Int.reduceBNe, Int.reduceToNat, Int.reduceNeg, Int.reduceSub, Int.reduceAdd, h]
    refine callK (by simp only [push_cast, Nat.reduceBEq, Nat.reduceAdd, Nat.reduceEqDiff, reduceCtorEq, Nat.reduceLeDiff, Nat.reduceSub, Nat.reduceMul, Nat.reduceLT, Int.reduceEq, Int.reduceLT, Int.reduceLE, Int.reduceBEq, Int.reduceBNe, Int.reduceToNat, Int.reduceNeg, Int.reduceSub, Int.reduceAdd, h0, hBb, hBt]; exact cells_h s s rfl) ?_
    simp only [push_cast, Nat.reduceBEq, Nat.reduceAdd, Nat.reduceEqDiff, reduceCtorEq, Nat.reduceLeDiff, Nat.reduceSub, Nat.reduceMul, Nat.reduceLT, Int.reduceEq, Int.reduceLT, Int.reduceLE, Int.reduceBEq, Int.reduceBNe, Int.reduceToNat, Int.reduceNeg, Int.reduceSub, Int.reduceAdd]
end Go.Proofs.Yticplbnnmajcpaa
