/- Files that a crash may cut: Read, by the walk over a heap. -/
import Derived.Test.YtjmafbdakalknaaDoorFsApp2
set_option linter.unusedVariables false
set_option linter.unusedSimpArgs false
namespace Go.Proofs.YtjmafbdakalknaaDoor
open Go Go.RowKit Hv
set_option maxRecDepth 20000
set_option maxHeartbeats 4000000
/-- Bytes that a call hands out: a row that nobody else has. -/
def OutB (H : Hp) (n : Nat) (bs : List UInt8) (e : Int) (r : AV) (H' : Hp) (n' : Nat) : Prop :=
  n ≤ n' ∧ (∀ j, j < n → H' j = H j) ∧ ∃ res, r = .tup [res, .lit (.int .i64 e)] ∧ ((res = .lit (.slice none 0 0) ∧ bs = []) ∨ ∃ g m, res = .rw g 1 0 bs.length ∧ n ≤ g ∧ g < n' ∧ H' g = some (.row m 5 (byL bs)) ∧ (m = true ∨ bs = []))
theorem its_cut {H : Hp} {r o k : Nat} {m : Bool} {l : List UInt8} (hr : H r = some (.row m 5 (byL l))) (hk : o + k ≤ l.length) : AV.its? H (.rw r 1 o k) = some (byL ((l.drop o).take k)) := by
  simp only [AV.its?, hr]
  have hf : fits (byL l) 1 o k = true := by
    unfold fits
    cases ho : Nat.beq o 0 with
    | true => rw [cond_true, Nat.ble_eq, byL_len]; omega
    | false =>
      rw [cond_false, Bool.and_eq_true, Nat.ble_eq, byL_len]
      refine ⟨?_, hk⟩
      cases l with
      | nil =>
        have : o = 0 := by simp only [List.length_nil] at hk; omega
        subst this; simp at ho
      | cons a l => rfl
  have hp : piece (byL l) o k = byL ((l.drop o).take k) := by
    unfold piece byL
    cases ho : Nat.beq o 0 with
    | true =>
      have := Nat.eq_of_beq_eq_true ho
      subst this
      rw [cond_true, List.drop_zero, List.map_take]
    | false => rw [cond_false, List.map_take, List.map_drop]
  rw [hf, hp]; rfl
theorem read_h {H : Hp} {S : Nat → Prop} {n p : Nat} {L : FsL} {d : FsD} (h : FsH H S p L d) (hok : FsOk d) (hS : ∀ j, S j → j < n) (s : ByteArray) (off k : Int) (hk : -4611686018427387904 ≤ k ∧ k ≤ 4611686018427387904) :
    HCalls Tryd.prog 17 [.ptr p 0, .lit (.string s), .lit (.int .i64 off), .lit (.int .i64 k)] H n (OutB H n (d.read s off k).1 (d.read s off k).2) := by
  refine hcallsC_of (rs := [.tmp 8, .tmp 9]) ⟨[0, 1, 2, 3, 8, 9, 10, 11, 12, 19, 23, 42], [], [], [(9, [(0, [], []), (1, [], []), (2, [], []), (3, [], []), (4, [], []), (5, [], []), (6, [], []), (7, [], []), (8, [], []), (9, [], []), (10, [], []), (11, [], []), (12, [], []), (13, [], []), (14, [], []), (15, [], []), (16, [], []), (17, [], [16, 3, 4, 15, 2, 5, 14, 1, 6, 13, 0, 11, 12, 10, 9, 8, 7]), (18, [], [17, 0, 1, 2, 3, 4, 5, 6, 7, 8, 9, 10, 11, 12, 13, 14, 15, 16]), (19, [], [18, 0, 1, 2, 3, 4, 5, 6, 7, 8, 9, 10, 11, 12, 13, 14, 15, 16, 17])])]⟩ TOk mixed Tryd.func17 rfl rfl (by kernel_rfl) (by kernel_rfl) rfl ?_
  simp only [push_cast, Nat.reduceBEq, Nat.reduceAdd, Nat.reduceEqDiff, reduceCtorEq, Nat.reduceLeDiff, Nat.reduceSub, Nat.reduceMul, Nat.reduceLT, Int.reduceEq, Int.reduceLT, Int.reduceLE, Int.reduceBEq, Int.reduceBNe, Int.reduceToNat, Int.reduceNeg, Int.reduceSub, Int.reduceAdd]
  have hold0 : ∀ j, j < n → upd H n (some (.row false 5 [])) j = H j := fun j hj => upd_other (by omega)
  have hold1 : ∀ j, j < n → upd (upd H n (some (.row false 5 []))) (n + 1) (some (.row false 5 [])) j = H j := fun j hj => by rw [upd_other (by omega), upd_other (by omega)]
  have h1 : FsH (upd H n (some (.row false 5 []))) S p L d := h.frame fun j hj => hold0 j (hS j hj)
  have out : ∀ (e : Int) (H' : Hp), (∀ j, j < n → H' j = H j) → H' (n + 1) = some (.row false 5 []) → OutB H n [] e (.tup [.rw (n + 1) 1 0 0, .lit (.int .i64 e)]) H' (n + 1 + 1) := fun e H' hh hg => ⟨by omega, hh, _, rfl, .inr ⟨n + 1, false, rfl, by omega, by omega, hg, .inr rfl⟩⟩
  refine callH (find_h h1 hok s) ?_
  rintro _ _ _ ⟨rfl, rfl, rfl⟩
  rcases find_code d s with ⟨hn, hf⟩ | ⟨hn, hlk, hf⟩ | ⟨i, hn, hlk, hf⟩
  · have hc : d.read s off k = ([], 6) := by unfold FsD.read; rw [hf]
    simp only [push_cast, Nat.reduceBEq, Nat.reduceAdd, Nat.reduceEqDiff, reduceCtorEq, Nat.reduceLeDiff, Nat.reduceSub, Nat.reduceMul, Nat.reduceLT, Int.reduceEq, Int.reduceLT, Int.reduceLE, Int.reduceBEq, Int.reduceBNe, Int.reduceToNat, Int.reduceNeg, Int.reduceSub, Int.reduceAdd, hf, hc]
    exact out _ _ hold1 (upd_same _ _ _)
  · have hc : d.read s off k = ([], 7) := by unfold FsD.read; rw [hf]
    simp only [push_cast, Nat.reduceBEq, Nat.reduceAdd, Nat.reduceEqDiff, reduceCtorEq, Nat.reduceLeDiff, Nat.reduceSub, Nat.reduceMul, Nat.reduceLT, Int.reduceEq, Int.reduceLT, Int.reduceLE, Int.reduceBEq, Int.reduceBNe, Int.reduceToNat, Int.reduceNeg, Int.reduceSub, Int.reduceAdd, hf, hc]
    exact out _ _ hold1 (upd_same _ _ _)
  · obtain ⟨hlt, hfx⟩ := find_file hok hlk
    obtain ⟨bv, hb1, hb2⟩ := h.file _ _ hfx
    have hfl := file_len hok i
    obtain ⟨ln, hln⟩ : ∃ ln, (d.file i).b.length = ln := ⟨_, rfl⟩
    have hspec : d.read s off k = if off < 0 ∨ k < 0 ∨ (ln : Int) < off then ([], 1) else if d.asks ≠ 0 then ([], d.asks) else (((d.file i).b.drop off.toNat).take k.toNat, 0) := by unfold FsD.read; rw [hf, ← hln]
    have hfn := hS _ (h.Sf i hlt).1
    have e0 : (n == L.fid i) = false := nb (by omega)
    have e1 : (n + 1 == L.fid i) = false := nb (by omega)
    by_cases h1' : off < 0
    · have hc : d.read s off k = ([], 1) := by rw [hspec, if_pos (.inl h1')]
      simp only [push_cast, Nat.reduceBEq, Nat.reduceAdd, Nat.reduceEqDiff, reduceCtorEq, Nat.reduceLeDiff, Nat.reduceSub, Nat.reduceMul, Nat.reduceLT, Int.reduceEq, Int.reduceLT, Int.reduceLE, Int.reduceBEq, Int.reduceBNe, Int.reduceToNat, Int.reduceNeg, Int.reduceSub, Int.reduceAdd, hf, h1', hc, e0, e1]
      exact out _ _ hold1 (upd_same _ _ _)
    · by_cases h2 : k < 0
      · have hc : d.read s off k = ([], 1) := by rw [hspec, if_pos (.inr (.inl h2))]
        simp only [push_cast, Nat.reduceBEq, Nat.reduceAdd, Nat.reduceEqDiff, reduceCtorEq, Nat.reduceLeDiff, Nat.reduceSub, Nat.reduceMul, Nat.reduceLT, Int.reduceEq, Int.reduceLT, Int.reduceLE, Int.reduceBEq, Int.reduceBNe, Int.reduceToNat, Int.reduceNeg, Int.reduceSub, Int.reduceAdd, hf, h1', e0, e1, h2, hc]
        exact out _ _ hold1 (upd_same _ _ _)
      · by_cases h3 : (ln : Int) < off
        · have hc : d.read s off k = ([], 1) := by rw [hspec, if_pos (.inr (.inr h3))]
          rcases hb2 with ⟨rfl, hl, _⟩ | ⟨rfl, hrow⟩
          · rw [hl] at hln; simp only [List.length_nil] at hln; subst hln
            have h3' : off > 0 := h3
            simp only [push_cast, Nat.reduceBEq, Nat.reduceAdd, Nat.reduceEqDiff, reduceCtorEq, Nat.reduceLeDiff, Nat.reduceSub, Nat.reduceMul, Nat.reduceLT, Int.reduceEq, Int.reduceLT, Int.reduceLE, Int.reduceBEq, Int.reduceBNe, Int.reduceToNat, Int.reduceNeg, Int.reduceSub, Int.reduceAdd, hf, h1', e0, e1, h2, h3', hb1, hc]
            exact out _ _ hold1 (upd_same _ _ _)
          · have h3' : off > (ln : Int) := h3
            simp only [push_cast, Nat.reduceBEq, Nat.reduceAdd, Nat.reduceEqDiff, reduceCtorEq, Nat.reduceLeDiff, Nat.reduceSub, Nat.reduceMul, Nat.reduceLT, Int.reduceEq, Int.reduceLT, Int.reduceLE, Int.reduceBEq, Int.reduceBNe, Int.reduceToNat, Int.reduceNeg, Int.reduceSub, Int.reduceAdd, hf, h1', e0, e1, h2, h3', hb1, hln, hc]
            exact out _ _ hold1 (upd_same _ _ _)
        · have h3' : ¬ off > (ln : Int) := h3
          have hno : ¬ (off < 0 ∨ k < 0 ∨ (ln : Int) < off) := by omega
          cases ho : d.off with
          | true =>
            have ha : d.asks = 4 := by unfold FsD.asks; rw [ho]; rfl
            have hc : d.read s off k = ([], 4) := by rw [hspec, if_neg hno, ha, if_pos (by decide)]
            rcases hb2 with ⟨rfl, hl, _⟩ | ⟨rfl, hrow⟩
            · rw [hl] at hln; simp only [List.length_nil] at hln; subst hln
              have h3'' : ¬ off > 0 := h3
              simp only [push_cast, Nat.reduceBEq, Nat.reduceAdd, Nat.reduceEqDiff, reduceCtorEq, Nat.reduceLeDiff, Nat.reduceSub, Nat.reduceMul, Nat.reduceLT, Int.reduceEq, Int.reduceLT, Int.reduceLE, Int.reduceBEq, Int.reduceBNe, Int.reduceToNat, Int.reduceNeg, Int.reduceSub, Int.reduceAdd, hf, h1', e0, e1, h2, h3'', hb1]
              refine callH (asks_h h1) ?_
              rintro _ _ _ ⟨rfl, rfl, rfl⟩
              simp only [push_cast, Nat.reduceBEq, Nat.reduceAdd, Nat.reduceEqDiff, reduceCtorEq, Nat.reduceLeDiff, Nat.reduceSub, Nat.reduceMul, Nat.reduceLT, Int.reduceEq, Int.reduceLT, Int.reduceLE, Int.reduceBEq, Int.reduceBNe, Int.reduceToNat, Int.reduceNeg, Int.reduceSub, Int.reduceAdd, ha, hc]
              exact out _ _ hold1 (upd_same _ _ _)
            · simp only [push_cast, Nat.reduceBEq, Nat.reduceAdd, Nat.reduceEqDiff, reduceCtorEq, Nat.reduceLeDiff, Nat.reduceSub, Nat.reduceMul, Nat.reduceLT, Int.reduceEq, Int.reduceLT, Int.reduceLE, Int.reduceBEq, Int.reduceBNe, Int.reduceToNat, Int.reduceNeg, Int.reduceSub, Int.reduceAdd, hf, h1', e0, e1, h2, h3', hb1, hln]
              refine callH (asks_h h1) ?_
              rintro _ _ _ ⟨rfl, rfl, rfl⟩
              simp only [push_cast, Nat.reduceBEq, Nat.reduceAdd, Nat.reduceEqDiff, reduceCtorEq, Nat.reduceLeDiff, Nat.reduceSub, Nat.reduceMul, Nat.reduceLT, Int.reduceEq, Int.reduceLT, Int.reduceLE, Int.reduceBEq, Int.reduceBNe, Int.reduceToNat, Int.reduceNeg, Int.reduceSub, Int.reduceAdd, ha, hc]
              exact out _ _ hold1 (upd_same _ _ _)
          | false =>
            have ha : d.asks = 0 := by unfold FsD.asks; rw [ho]; rfl
            have hc : d.read s off k = (((d.file i).b.drop off.toNat).take k.toNat, 0) := by rw [hspec, if_neg hno, ha, if_neg (by decide)]
            have hw : IntKind.i64.wrap ((ln : Int) - off) = (ln : Int) - off := IntWalk.i64_in _ (by omega)
            obtain ⟨q, hq, hq0⟩ : ∃ q : Int, (if (ln : Int) - off < k then (ln : Int) - off else k) = q ∧ 0 ≤ q ∧ off + q ≤ ln ∧ ((q = (ln : Int) - off ∧ (ln : Int) - off < k) ∨ q = k) := by
              by_cases hh : (ln : Int) - off < k
              · exact ⟨_, if_pos hh, by omega, by omega, .inl ⟨rfl, hh⟩⟩
              · exact ⟨_, if_neg hh, by omega, by omega, .inr rfl⟩
            have hw2 : IntKind.i64.wrap (off + q) = off + q := IntWalk.i64_in _ (by omega)
            have c0 : 0 ≤ off := by omega
            have c1 : off ≤ off + q := by omega
            have c2 : off + q ≤ (ln : Int) := hq0.2.1
            have c3 : (off + q - off).toNat = q.toNat := by omega
            have hbs : ((d.file i).b.drop off.toNat).take k.toNat = ((d.file i).b.drop off.toNat).take q.toNat := by
              rcases hq0.2.2 with ⟨e, hh⟩ | e
              · have hl : ((d.file i).b.drop off.toNat).length = q.toNat := by rw [List.length_drop]; omega
                rw [List.take_of_length_le (by omega), List.take_of_length_le (by omega)]
              · rw [e]
            have hbl : (((d.file i).b.drop off.toNat).take q.toNat).length ≤ 1000000000 := by
              rw [List.length_take, List.length_drop]; omega
            rcases hb2 with ⟨rfl, hl, _⟩ | ⟨rfl, hrow⟩
            · rw [hl] at hln; simp only [List.length_nil] at hln; subst hln
              have ho0 : off = 0 := by omega
              have hq00 : q = 0 := by omega
              subst ho0 hq00
              have h3'' : ¬ (0 : Int) > 0 := h3
              simp only [push_cast, Nat.reduceBEq, Nat.reduceAdd, Nat.reduceEqDiff, reduceCtorEq, Nat.reduceLeDiff, Nat.reduceSub, Nat.reduceMul, Nat.reduceLT, Int.reduceEq, Int.reduceLT, Int.reduceLE, Int.reduceBEq, Int.reduceBNe, Int.reduceToNat, Int.reduceNeg, Int.reduceSub, Int.reduceAdd, hf, h2, hb1, e0, e1]
              refine callH (asks_h h1) ?_
              rintro _ _ _ ⟨rfl, rfl, rfl⟩
              have hw3 : IntKind.i64.wrap 0 = 0 := by decide
              have hq' : (if (0 : Int) < k then (0 : Int) else k) = 0 := by simpa using hq
              simp (maxSteps := 2000000) only [push_cast, Nat.reduceBEq, Nat.reduceAdd, Nat.reduceEqDiff, reduceCtorEq, Nat.reduceLeDiff, Nat.reduceSub, Nat.reduceMul, Nat.reduceLT, Int.reduceEq, Int.reduceLT, Int.reduceLE, Int.reduceBEq, Int.reduceBNe, Int.reduceToNat, Int.reduceNeg, Int.reduceSub, Int.reduceAdd, ha, hb1, e0, e1, hw3, hq', List.not_mem_nil, false_implies]
              refine callHD (bytesClone_h (x := .sl []) (l := []) rfl (by decide)) ?_
              have hc' : d.read s 0 k = ([], 0) := by rw [hc, hl]; simp
              rintro r H' n' (⟨rfl, _, rfl, rfl⟩ | ⟨rfl, rfl, rfl⟩)
              · simp only [push_cast, Nat.reduceBEq, Nat.reduceAdd, Nat.reduceEqDiff, reduceCtorEq, Nat.reduceLeDiff, Nat.reduceSub, Nat.reduceMul, Nat.reduceLT, Int.reduceEq, Int.reduceLT, Int.reduceLE, Int.reduceBEq, Int.reduceBNe, Int.reduceToNat, Int.reduceNeg, Int.reduceSub, Int.reduceAdd, hc']
                exact ⟨by omega, hold0, _, rfl, .inl ⟨rfl, rfl⟩⟩
              · simp only [push_cast, Nat.reduceBEq, Nat.reduceAdd, Nat.reduceEqDiff, reduceCtorEq, Nat.reduceLeDiff, Nat.reduceSub, Nat.reduceMul, Nat.reduceLT, Int.reduceEq, Int.reduceLT, Int.reduceLE, Int.reduceBEq, Int.reduceBNe, Int.reduceToNat, Int.reduceNeg, Int.reduceSub, Int.reduceAdd, hc']
                exact ⟨by omega, fun j hj => (upd_other (by omega)).trans (hold0 j hj), _, rfl, .inr ⟨n + 1, true, rfl, by omega, by omega, upd_same _ _ _, .inl rfl⟩⟩
            · simp only [push_cast, Nat.reduceBEq, Nat.reduceAdd, Nat.reduceEqDiff, reduceCtorEq, Nat.reduceLeDiff, Nat.reduceSub, Nat.reduceMul, Nat.reduceLT, Int.reduceEq, Int.reduceLT, Int.reduceLE, Int.reduceBEq, Int.reduceBNe, Int.reduceToNat, Int.reduceNeg, Int.reduceSub, Int.reduceAdd, hf, h1', e0, e1, h2, h3', hb1, hln]
              refine callH (asks_h h1) ?_
              rintro _ _ _ ⟨rfl, rfl, rfl⟩
              simp (maxSteps := 2000000) only [push_cast, Nat.reduceBEq, Nat.reduceAdd, Nat.reduceEqDiff, reduceCtorEq, Nat.reduceLeDiff, Nat.reduceSub, Nat.reduceMul, Nat.reduceLT, Int.reduceEq, Int.reduceLT, Int.reduceLE, Int.reduceBEq, Int.reduceBNe, Int.reduceToNat, Int.reduceNeg, Int.reduceSub, Int.reduceAdd, ha, hb1, e0, e1, hln, hw, hq, hw2, c0, c1, c2, c3]
              have hrow0 : upd H n (some (.row false 5 [])) (L.rid i) = some (.row true 5 (byL (d.file i).b)) := (hold0 _ (hS _ (h.Sf i hlt).2)).trans hrow
              refine callHD (bytesClone_h (x := .rw (L.rid i) 1 off.toNat q.toNat) (its_cut hrow0 (by omega)) hbl) ?_
              rw [hc, hbs]
              generalize hbb : ((d.file i).b.drop off.toNat).take q.toNat = bb
              rintro r H' n' (⟨rfl, hnl, rfl, rfl⟩ | ⟨rfl, rfl, rfl⟩)
              · simp only [push_cast, Nat.reduceBEq, Nat.reduceAdd, Nat.reduceEqDiff, reduceCtorEq, Nat.reduceLeDiff, Nat.reduceSub, Nat.reduceMul, Nat.reduceLT, Int.reduceEq, Int.reduceLT, Int.reduceLE, Int.reduceBEq, Int.reduceBNe, Int.reduceToNat, Int.reduceNeg, Int.reduceSub, Int.reduceAdd]
                exact ⟨by omega, hold0, _, rfl, .inl ⟨rfl, hnl⟩⟩
              · simp only [push_cast, Nat.reduceBEq, Nat.reduceAdd, Nat.reduceEqDiff, reduceCtorEq, Nat.reduceLeDiff, Nat.reduceSub, Nat.reduceMul, Nat.reduceLT, Int.reduceEq, Int.reduceLT, Int.reduceLE, Int.reduceBEq, Int.reduceBNe, Int.reduceToNat, Int.reduceNeg, Int.reduceSub, Int.reduceAdd]
                exact ⟨by omega, fun j hj => (upd_other (by omega)).trans (hold0 j hj), _, rfl, .inr ⟨n + 1, true, rfl, by omega, by omega, upd_same _ _ _, .inl rfl⟩⟩
end Go.Proofs.YtjmafbdakalknaaDoor
