/- Files that a crash may cut: Append, by the walk over a heap. -/
import Derived.Test.YtjmafbdakalknaaDoorFsApp
set_option linter.unusedVariables false
set_option linter.unusedSimpArgs false
namespace Go.Proofs.YtjmafbdakalknaaDoor
open Go Go.RowKit Hv
set_option maxRecDepth 20000
set_option maxHeartbeats 4000000
theorem byL_app (a b : List UInt8) : byL a ++ byL b = byL (a ++ b) := (List.map_append ..).symm
theorem byL_one (l : List UInt8) : (∀ it ∈ byL l, it.length = 1) = True := eq_true fun it hit => by
  obtain ⟨b, _, rfl⟩ := List.mem_map.1 hit; rfl
/-- Bytes that a caller hands over: a row of its own, or what it reads. -/
def BArg (H : Hp) (n : Nat) (S : Nat → Prop) (x : AV) (b : List UInt8) : Prop := (∃ g m, x = .rw g 1 0 b.length ∧ g < n ∧ ¬ S g ∧ H g = some (.row m 5 (byL b))) ∨ x = .sl (byL b)
theorem append_h {H : Hp} {S : Nat → Prop} {n p : Nat} {L : FsL} {d : FsD} (h : FsH H S p L d) (hok : FsOk d) (hS : ∀ j, S j → j < n) (s : ByteArray) {x : AV} {b : List UInt8} (hx : BArg H n S x b) (hb : b.length ≤ 1000000000) :
    HCalls Tryd.prog 13 [.ptr p 0, .lit (.string s), x] H n (FsPost H n S p (d.append s b).1 (.lit (.int .i64 (d.append s b).2))) := by
  refine hcallsC_of (rs := [.tmp 6]) ⟨[0, 1, 2, 6, 7, 8, 9, 16, 20, 30, 44], [52], [], [(6, [(0, [], []), (1, [], []), (2, [], []), (3, [], []), (4, [], []), (5, [], []), (6, [], []), (7, [1, 5], [6]), (8, [], []), (9, [], []), (10, [], [9, 7, 1, 8, 6, 0, 5, 4, 3, 2])])]⟩ TOk mixed Tryd.func13 rfl rfl (by kernel_rfl) (by kernel_rfl) rfl ?_
  simp only [push_cast, Nat.reduceBEq, Nat.reduceAdd, Nat.reduceEqDiff, reduceCtorEq, Nat.reduceLeDiff, Nat.reduceSub, Nat.reduceMul, Nat.reduceLT, Int.reduceEq, Int.reduceLT, Int.reduceLE, Int.reduceBEq, Int.reduceBNe, Int.reduceToNat, Int.reduceNeg, Int.reduceSub, Int.reduceAdd]
  refine callH (find_h h hok s) ?_
  rintro _ H n ⟨rfl, rfl, rfl⟩
  rcases find_code d s with ⟨hn, hf⟩ | ⟨hn, hlk, hf⟩ | ⟨i, hn, hlk, hf⟩
  · have hc : d.append s b = (d, 6) := by unfold FsD.append; rw [hf]
    simp only [push_cast, Nat.reduceBEq, Nat.reduceAdd, Nat.reduceEqDiff, reduceCtorEq, Nat.reduceLeDiff, Nat.reduceSub, Nat.reduceMul, Nat.reduceLT, Int.reduceEq, Int.reduceLT, Int.reduceLE, Int.reduceBEq, Int.reduceBNe, Int.reduceToNat, Int.reduceNeg, Int.reduceSub, Int.reduceAdd, hf, hc]
    exact post_same h hS (Nat.le_refl _) (fun _ _ => rfl)
  · have hc : d.append s b = (d, 7) := by unfold FsD.append; rw [hf]
    simp only [push_cast, Nat.reduceBEq, Nat.reduceAdd, Nat.reduceEqDiff, reduceCtorEq, Nat.reduceLeDiff, Nat.reduceSub, Nat.reduceMul, Nat.reduceLT, Int.reduceEq, Int.reduceLT, Int.reduceLE, Int.reduceBEq, Int.reduceBNe, Int.reduceToNat, Int.reduceNeg, Int.reduceSub, Int.reduceAdd, hf, hc]
    exact post_same h hS (Nat.le_refl _) (fun _ _ => rfl)
  · obtain ⟨hlt, hfx⟩ := find_file hok hlk
    obtain ⟨bv, hb1, hb2⟩ := h.file _ _ hfx
    have hSf := h.Sf i hlt
    have hpn := hS _ h.Sp
    have htop := h.top
    unfold topA at htop
    have hfl := file_len hok i
    obtain ⟨ln, hln⟩ : ∃ ln, (d.file i).b.length = ln := ⟨_, rfl⟩
    obtain ⟨u, hu⟩ : ∃ u, d.used = u := ⟨_, rfl⟩
    have hul := used_le hok
    have hw1 : IntKind.i64.wrap (1048576 - (ln : Int)) = 1048576 - (ln : Int) := IntWalk.i64_in _ (by omega)
    have hw2 : IntKind.i64.wrap (d.room - (u : Int)) = d.room - (u : Int) := IntWalk.i64_in _ (by have := hok.room; omega)
    have hspec : d.append s b = if 1048576 < ln + b.length then (d, 14) else if d.room < (u : Int) + b.length then (d, 5) else if d.chg.2 ≠ 0 then d.chg else (d.chg.1.setFile i ⟨(d.file i).b ++ b, (d.file i).last⟩, 0) := by unfold FsD.append; rw [hf, ← hln, ← hu]
    have hBV : ∃ bv', bv = bv' ∧ BV H (L.fid i) (L.rid i) bv' (d.file i).b := ⟨bv, rfl, hb2⟩
    by_cases hbig : 1048576 < ln + b.length
    · have hc : d.append s b = (d, 14) := by rw [hspec, if_pos hbig]
      have hi : (b.length : Int) > 1048576 - (ln : Int) := by omega
      rcases hb2 with ⟨rfl, hl, _⟩ | ⟨rfl, hrow⟩ <;> rcases hx with ⟨g, m, rfl, hg, hgS, hgr⟩ | rfl
      · rw [hl] at hln; simp only [List.length_nil] at hln; subst hln
        have hw0 : IntKind.i64.wrap 1048576 = 1048576 := by decide
        have hi0 : (b.length : Int) > 1048576 := by omega
        simp only [push_cast, Nat.reduceBEq, Nat.reduceAdd, Nat.reduceEqDiff, reduceCtorEq, Nat.reduceLeDiff, Nat.reduceSub, Nat.reduceMul, Nat.reduceLT, Int.reduceEq, Int.reduceLT, Int.reduceLE, Int.reduceBEq, Int.reduceBNe, Int.reduceToNat, Int.reduceNeg, Int.reduceSub, Int.reduceAdd, hf, hb1, hw0, hi0, hc]
        exact post_same h hS (Nat.le_refl _) (fun _ _ => rfl)
      · rw [hl] at hln; simp only [List.length_nil] at hln; subst hln
        have hw0 : IntKind.i64.wrap 1048576 = 1048576 := by decide
        have hi0 : (b.length : Int) > 1048576 := by omega
        simp only [push_cast, Nat.reduceBEq, Nat.reduceAdd, Nat.reduceEqDiff, reduceCtorEq, Nat.reduceLeDiff, Nat.reduceSub, Nat.reduceMul, Nat.reduceLT, Int.reduceEq, Int.reduceLT, Int.reduceLE, Int.reduceBEq, Int.reduceBNe, Int.reduceToNat, Int.reduceNeg, Int.reduceSub, Int.reduceAdd, hf, hb1, byL_len, hw0, hi0, hc]
        exact post_same h hS (Nat.le_refl _) (fun _ _ => rfl)
      · simp only [push_cast, Nat.reduceBEq, Nat.reduceAdd, Nat.reduceEqDiff, reduceCtorEq, Nat.reduceLeDiff, Nat.reduceSub, Nat.reduceMul, Nat.reduceLT, Int.reduceEq, Int.reduceLT, Int.reduceLE, Int.reduceBEq, Int.reduceBNe, Int.reduceToNat, Int.reduceNeg, Int.reduceSub, Int.reduceAdd, hf, hb1, hln, hw1, hi, hc]
        exact post_same h hS (Nat.le_refl _) (fun _ _ => rfl)
      · simp only [push_cast, Nat.reduceBEq, Nat.reduceAdd, Nat.reduceEqDiff, reduceCtorEq, Nat.reduceLeDiff, Nat.reduceSub, Nat.reduceMul, Nat.reduceLT, Int.reduceEq, Int.reduceLT, Int.reduceLE, Int.reduceBEq, Int.reduceBNe, Int.reduceToNat, Int.reduceNeg, Int.reduceSub, Int.reduceAdd, hf, hb1, byL_len, hln, hw1, hi, hc]
        exact post_same h hS (Nat.le_refl _) (fun _ _ => rfl)
    · have hi : ¬ (b.length : Int) > 1048576 - (ln : Int) := by omega
      have hw0 : IntKind.i64.wrap 1048576 = 1048576 := by decide
      have hS1 : ∀ H1 : Hp, (∀ j, j < n → H1 j = H j) → FsH H1 S p L d := fun H1 h1 => h.frame fun j hj => h1 j (hS j hj)
      obtain ⟨q1, q2, q3, q4, q5⟩ := chg_same d
      have hfx2 : d.chg.1.files[i]? = some (d.file i) := by rw [q2]; exact hfx
      have hlt2 : i < d.chg.1.files.length := by rw [q2]; exact hlt
      have e0 : (n + 1 == L.fid i) = false := nb (by have := hS _ hSf.1; omega)
      have e0' : (L.fid i == n + 1) = false := nb (by have := hS _ hSf.1; omega)
      have fin : ∀ (H2 H3 : Hp) (l' : List UInt8), (∀ j, j < n → j ≠ p → H2 j = H j) → FsH H2 S p L d.chg.1 → l' = (d.file i).b ++ b → H3 (L.fid i) = some (.cells [.rw (n + 1) 1 0 l'.length, .lit (.int .i64 ((d.file i).last : Int))]) → H3 (n + 1) = some (.row true 5 (byL l')) → (∀ j, j < n → j ≠ L.fid i → j ≠ L.rid i → H3 j = H2 j) → FsPost H n S p (d.chg.1.setFile i ⟨(d.file i).b ++ b, (d.file i).last⟩) (.lit (.int .i64 0)) (.lit (.int .i64 0)) H3 (n + 2) := by
        intro H2 H3 l' hold2 h2 hl' h31 h32 h33
        subst hl'
        have h3 := h2.refile (H' := H3) (x' := ⟨(d.file i).b ++ b, (d.file i).last⟩) (r' := n + 1) (n := n) hS hlt2 (.inr (by omega)) h31 (.inr ⟨rfl, h32⟩) (fun j hj a1 a2 => h33 j (hS j hj) a1 a2)
        refine ⟨rfl, _, _, h3, by omega, fun j hj => ?_, fun j hj => ?_, fun j hj hs => ?_⟩
        · rcases hj with hj | hj
          · have := hS j hj; omega
          · omega
        · rcases hj with hj | hj
          · exact .inl hj
          · exact .inr (by omega)
        · rw [h33 j hj (fun e => hs (by rw [e]; exact hSf.1)) (fun e => hs (by rw [e]; exact hSf.2))]
          exact hold2 j hj (fun e => hs (by rw [e]; exact h.Sp))
      rcases hb2 with ⟨rfl, hl, hrf⟩ | ⟨rfl, hrow⟩ <;> rcases hx with ⟨g, m, rfl, hg, hgS, hgr⟩ | rfl
      · rw [hl] at hln; simp only [List.length_nil] at hln; subst hln
        have hi0 : ¬ (b.length : Int) > 1048576 := by omega
        simp only [push_cast, Nat.reduceBEq, Nat.reduceAdd, Nat.reduceEqDiff, reduceCtorEq, Nat.reduceLeDiff, Nat.reduceSub, Nat.reduceMul, Nat.reduceLT, Int.reduceEq, Int.reduceLT, Int.reduceLE, Int.reduceBEq, Int.reduceBNe, Int.reduceToNat, Int.reduceNeg, Int.reduceSub, Int.reduceAdd, hf, hb1, hw0, hi0, htop]
        refine callHD (used_h h hok hS) ?_
        rintro _ H1 _ ⟨rfl, rfl, hold1⟩
        have hp1 := (hold1 p hpn).trans htop
        have h1 := hS1 H1 hold1
        by_cases hsp : d.room < (u : Int) + b.length
        · have hc : d.append s b = (d, 5) := by rw [hspec, if_neg hbig, if_pos hsp]
          have hspi : (b.length : Int) > d.room - (u : Int) := by omega
          simp only [push_cast, Nat.reduceBEq, Nat.reduceAdd, Nat.reduceEqDiff, reduceCtorEq, Nat.reduceLeDiff, Nat.reduceSub, Nat.reduceMul, Nat.reduceLT, Int.reduceEq, Int.reduceLT, Int.reduceLE, Int.reduceBEq, Int.reduceBNe, Int.reduceToNat, Int.reduceNeg, Int.reduceSub, Int.reduceAdd, hu, hw2, hspi, hp1, hc]
          exact post_same h hS (by omega) hold1
        · have hspi : ¬ (b.length : Int) > d.room - (u : Int) := by omega
          simp only [push_cast, Nat.reduceBEq, Nat.reduceAdd, Nat.reduceEqDiff, reduceCtorEq, Nat.reduceLeDiff, Nat.reduceSub, Nat.reduceMul, Nat.reduceLT, Int.reduceEq, Int.reduceLT, Int.reduceLE, Int.reduceBEq, Int.reduceBNe, Int.reduceToNat, Int.reduceNeg, Int.reduceSub, Int.reduceAdd, hu, hw2, hspi, hp1]
          refine callH (chg_h h1 hok) ?_
          rintro _ H2 _ ⟨rfl, rfl, h2, hold2⟩
          have hold : ∀ j, j < n → j ≠ p → H2 j = H j := fun j hj hjp => (hold2 j hjp).trans (hold1 j hj)
          rcases chg_cases d with ⟨hcc, hce⟩ | ⟨hcc, _⟩
          · have hc : d.append s b = (d.chg.1, 4) := by rw [hspec, if_neg hbig, if_neg hsp, if_pos (by rw [hcc]; decide), ← hcc]
            simp only [push_cast, Nat.reduceBEq, Nat.reduceAdd, Nat.reduceEqDiff, reduceCtorEq, Nat.reduceLeDiff, Nat.reduceSub, Nat.reduceMul, Nat.reduceLT, Int.reduceEq, Int.reduceLT, Int.reduceLE, Int.reduceBEq, Int.reduceBNe, Int.reduceToNat, Int.reduceNeg, Int.reduceSub, Int.reduceAdd, hcc, hc]
            exact post_top h2 hS (by omega) hold
          · have hc : d.append s b = (d.chg.1.setFile i ⟨(d.file i).b ++ b, (d.file i).last⟩, 0) := by rw [hspec, if_neg hbig, if_neg hsp, if_neg (by rw [hcc]; decide)]
            have hfp : L.fid i ≠ p := fun e => by rw [e, htop] at hb1; injection hb1 with hb1; injection hb1 with hb1; simp at hb1
            have hb3 := (hold _ (hS _ hSf.1) hfp).trans hb1
            have hg2 := (hold g hg (fun e => hgS (by rw [e]; exact h.Sp))).trans hgr
            have eg : (n + 1 == g) = false := nb (by omega)
            have htk : List.take b.length (byL b) = byL b := by rw [← byL_len, List.take_length]
            have hbd : b.length * 1 ≤ 140737488355328 := by omega
            have hbd' : b.length ≤ 140737488355328 := by omega
            simp only [push_cast, Nat.reduceBEq, Nat.reduceAdd, Nat.reduceEqDiff, reduceCtorEq, Nat.reduceLeDiff, Nat.reduceSub, Nat.reduceMul, Nat.reduceLT, Int.reduceEq, Int.reduceLT, Int.reduceLE, Int.reduceBEq, Int.reduceBNe, Int.reduceToNat, Int.reduceNeg, Int.reduceSub, Int.reduceAdd, hcc, hc, hb3, e0, e0', hg2, eg, htk, byL_len, byL_one, hbd, hbd', byL_len, byL_one]
            refine fin H2 _ b hold h2 (by rw [hl]; rfl) (upd_same _ _ _) ?_ fun j hj a1 a2 => ?_
            · rw [upd_other (by have := hS _ hSf.1; omega), upd_same]
            · rw [upd_other (fun e => a1 e.symm), upd_other (by omega)]
      · rw [hl] at hln; simp only [List.length_nil] at hln; subst hln
        have hi0 : ¬ (b.length : Int) > 1048576 := by omega
        simp only [push_cast, Nat.reduceBEq, Nat.reduceAdd, Nat.reduceEqDiff, reduceCtorEq, Nat.reduceLeDiff, Nat.reduceSub, Nat.reduceMul, Nat.reduceLT, Int.reduceEq, Int.reduceLT, Int.reduceLE, Int.reduceBEq, Int.reduceBNe, Int.reduceToNat, Int.reduceNeg, Int.reduceSub, Int.reduceAdd, hf, hb1, byL_len, hw0, hi0, htop]
        refine callHD (used_h h hok hS) ?_
        rintro _ H1 _ ⟨rfl, rfl, hold1⟩
        have hp1 := (hold1 p hpn).trans htop
        have h1 := hS1 H1 hold1
        by_cases hsp : d.room < (u : Int) + b.length
        · have hc : d.append s b = (d, 5) := by rw [hspec, if_neg hbig, if_pos hsp]
          have hspi : (b.length : Int) > d.room - (u : Int) := by omega
          simp only [push_cast, Nat.reduceBEq, Nat.reduceAdd, Nat.reduceEqDiff, reduceCtorEq, Nat.reduceLeDiff, Nat.reduceSub, Nat.reduceMul, Nat.reduceLT, Int.reduceEq, Int.reduceLT, Int.reduceLE, Int.reduceBEq, Int.reduceBNe, Int.reduceToNat, Int.reduceNeg, Int.reduceSub, Int.reduceAdd, byL_len, hu, hw2, hspi, hp1, hc]
          exact post_same h hS (by omega) hold1
        · have hspi : ¬ (b.length : Int) > d.room - (u : Int) := by omega
          simp only [push_cast, Nat.reduceBEq, Nat.reduceAdd, Nat.reduceEqDiff, reduceCtorEq, Nat.reduceLeDiff, Nat.reduceSub, Nat.reduceMul, Nat.reduceLT, Int.reduceEq, Int.reduceLT, Int.reduceLE, Int.reduceBEq, Int.reduceBNe, Int.reduceToNat, Int.reduceNeg, Int.reduceSub, Int.reduceAdd, byL_len, hu, hw2, hspi, hp1]
          refine callH (chg_h h1 hok) ?_
          rintro _ H2 _ ⟨rfl, rfl, h2, hold2⟩
          have hold : ∀ j, j < n → j ≠ p → H2 j = H j := fun j hj hjp => (hold2 j hjp).trans (hold1 j hj)
          rcases chg_cases d with ⟨hcc, hce⟩ | ⟨hcc, _⟩
          · have hc : d.append s b = (d.chg.1, 4) := by rw [hspec, if_neg hbig, if_neg hsp, if_pos (by rw [hcc]; decide), ← hcc]
            simp only [push_cast, Nat.reduceBEq, Nat.reduceAdd, Nat.reduceEqDiff, reduceCtorEq, Nat.reduceLeDiff, Nat.reduceSub, Nat.reduceMul, Nat.reduceLT, Int.reduceEq, Int.reduceLT, Int.reduceLE, Int.reduceBEq, Int.reduceBNe, Int.reduceToNat, Int.reduceNeg, Int.reduceSub, Int.reduceAdd, hcc, hc]
            exact post_top h2 hS (by omega) hold
          · have hc : d.append s b = (d.chg.1.setFile i ⟨(d.file i).b ++ b, (d.file i).last⟩, 0) := by rw [hspec, if_neg hbig, if_neg hsp, if_neg (by rw [hcc]; decide)]
            have hfp : L.fid i ≠ p := fun e => by rw [e, htop] at hb1; injection hb1 with hb1; injection hb1 with hb1; simp at hb1
            have hb3 := (hold _ (hS _ hSf.1) hfp).trans hb1
            have hbd : b.length * 1 ≤ 140737488355328 := by omega
            have hbd' : b.length ≤ 140737488355328 := by omega
            simp only [push_cast, Nat.reduceBEq, Nat.reduceAdd, Nat.reduceEqDiff, reduceCtorEq, Nat.reduceLeDiff, Nat.reduceSub, Nat.reduceMul, Nat.reduceLT, Int.reduceEq, Int.reduceLT, Int.reduceLE, Int.reduceBEq, Int.reduceBNe, Int.reduceToNat, Int.reduceNeg, Int.reduceSub, Int.reduceAdd, hcc, hc, hb3, e0, e0', byL_len, byL_one, hbd, hbd', byL_len, byL_one]
            refine fin H2 _ b hold h2 (by rw [hl]; rfl) (upd_same _ _ _) ?_ fun j hj a1 a2 => ?_
            · rw [upd_other (by have := hS _ hSf.1; omega), upd_same]
            · rw [upd_other (fun e => a1 e.symm), upd_other (by omega)]
      · skip
        simp only [push_cast, Nat.reduceBEq, Nat.reduceAdd, Nat.reduceEqDiff, reduceCtorEq, Nat.reduceLeDiff, Nat.reduceSub, Nat.reduceMul, Nat.reduceLT, Int.reduceEq, Int.reduceLT, Int.reduceLE, Int.reduceBEq, Int.reduceBNe, Int.reduceToNat, Int.reduceNeg, Int.reduceSub, Int.reduceAdd, hf, hb1, hln, hw1, hi, htop]
        refine callHD (used_h h hok hS) ?_
        rintro _ H1 _ ⟨rfl, rfl, hold1⟩
        have hp1 := (hold1 p hpn).trans htop
        have h1 := hS1 H1 hold1
        by_cases hsp : d.room < (u : Int) + b.length
        · have hc : d.append s b = (d, 5) := by rw [hspec, if_neg hbig, if_pos hsp]
          have hspi : (b.length : Int) > d.room - (u : Int) := by omega
          simp only [push_cast, Nat.reduceBEq, Nat.reduceAdd, Nat.reduceEqDiff, reduceCtorEq, Nat.reduceLeDiff, Nat.reduceSub, Nat.reduceMul, Nat.reduceLT, Int.reduceEq, Int.reduceLT, Int.reduceLE, Int.reduceBEq, Int.reduceBNe, Int.reduceToNat, Int.reduceNeg, Int.reduceSub, Int.reduceAdd, hu, hw2, hspi, hp1, hc]
          exact post_same h hS (by omega) hold1
        · have hspi : ¬ (b.length : Int) > d.room - (u : Int) := by omega
          simp only [push_cast, Nat.reduceBEq, Nat.reduceAdd, Nat.reduceEqDiff, reduceCtorEq, Nat.reduceLeDiff, Nat.reduceSub, Nat.reduceMul, Nat.reduceLT, Int.reduceEq, Int.reduceLT, Int.reduceLE, Int.reduceBEq, Int.reduceBNe, Int.reduceToNat, Int.reduceNeg, Int.reduceSub, Int.reduceAdd, hu, hw2, hspi, hp1]
          refine callH (chg_h h1 hok) ?_
          rintro _ H2 _ ⟨rfl, rfl, h2, hold2⟩
          have hold : ∀ j, j < n → j ≠ p → H2 j = H j := fun j hj hjp => (hold2 j hjp).trans (hold1 j hj)
          rcases chg_cases d with ⟨hcc, hce⟩ | ⟨hcc, _⟩
          · have hc : d.append s b = (d.chg.1, 4) := by rw [hspec, if_neg hbig, if_neg hsp, if_pos (by rw [hcc]; decide), ← hcc]
            simp only [push_cast, Nat.reduceBEq, Nat.reduceAdd, Nat.reduceEqDiff, reduceCtorEq, Nat.reduceLeDiff, Nat.reduceSub, Nat.reduceMul, Nat.reduceLT, Int.reduceEq, Int.reduceLT, Int.reduceLE, Int.reduceBEq, Int.reduceBNe, Int.reduceToNat, Int.reduceNeg, Int.reduceSub, Int.reduceAdd, hcc, hc]
            exact post_top h2 hS (by omega) hold
          · have hc : d.append s b = (d.chg.1.setFile i ⟨(d.file i).b ++ b, (d.file i).last⟩, 0) := by rw [hspec, if_neg hbig, if_neg hsp, if_neg (by rw [hcc]; decide)]
            have hfp : L.fid i ≠ p := fun e => by rw [e, htop] at hb1; injection hb1 with hb1; injection hb1 with hb1; simp at hb1
            have hb3 := (hold _ (hS _ hSf.1) hfp).trans hb1
            have hg2 := (hold g hg (fun e => hgS (by rw [e]; exact h.Sp))).trans hgr
            have eg : (n + 1 == g) = false := nb (by omega)
            have htk : List.take b.length (byL b) = byL b := by rw [← byL_len, List.take_length]
            have hrp : L.rid i ≠ p := fun e => by rw [e, htop] at hrow; cases hrow
            have hr3 := (hold _ (hS _ hSf.2) hrp).trans hrow
            have er : (n + 1 == L.rid i) = false := nb (by have := hS _ hSf.2; omega)
            have er' : (L.rid i == L.fid i) = false := nb (fun e => by rw [e, hb1] at hrow; cases hrow)
            have er2 : (L.fid i == L.rid i) = false := nb (fun e => by rw [← e, hb1] at hrow; cases hrow)
            have hbd : (ln + b.length) * 1 ≤ 140737488355328 := by omega
            have hbd' : ln + b.length ≤ 140737488355328 := by omega
            have egr : (L.rid i == g) = false := nb (fun e => hgS (by rw [← e]; exact hSf.2))
            simp only [push_cast, Nat.reduceBEq, Nat.reduceAdd, Nat.reduceEqDiff, reduceCtorEq, Nat.reduceLeDiff, Nat.reduceSub, Nat.reduceMul, Nat.reduceLT, Int.reduceEq, Int.reduceLT, Int.reduceLE, Int.reduceBEq, Int.reduceBNe, Int.reduceToNat, Int.reduceNeg, Int.reduceSub, Int.reduceAdd, hcc, hc, hb3, e0, e0', hg2, eg, htk, byL_len, byL_one, hr3, er, er', er2, hln, hbd, hbd', byL_len, byL_one, byL_app, egr]
            refine fin H2 _ ((d.file i).b ++ b) hold h2 rfl ?_ ?_ fun j hj a1 a2 => ?_
            · rw [upd_same, List.length_append, hln]
            · rw [upd_other (by have := hS _ hSf.1; omega), upd_same]
            · rw [upd_other (fun e => a1 e.symm), upd_other (by omega), upd_other (fun e => a2 e.symm)]
      · skip
        simp only [push_cast, Nat.reduceBEq, Nat.reduceAdd, Nat.reduceEqDiff, reduceCtorEq, Nat.reduceLeDiff, Nat.reduceSub, Nat.reduceMul, Nat.reduceLT, Int.reduceEq, Int.reduceLT, Int.reduceLE, Int.reduceBEq, Int.reduceBNe, Int.reduceToNat, Int.reduceNeg, Int.reduceSub, Int.reduceAdd, hf, hb1, byL_len, hln, hw1, hi, htop]
        refine callHD (used_h h hok hS) ?_
        rintro _ H1 _ ⟨rfl, rfl, hold1⟩
        have hp1 := (hold1 p hpn).trans htop
        have h1 := hS1 H1 hold1
        by_cases hsp : d.room < (u : Int) + b.length
        · have hc : d.append s b = (d, 5) := by rw [hspec, if_neg hbig, if_pos hsp]
          have hspi : (b.length : Int) > d.room - (u : Int) := by omega
          simp only [push_cast, Nat.reduceBEq, Nat.reduceAdd, Nat.reduceEqDiff, reduceCtorEq, Nat.reduceLeDiff, Nat.reduceSub, Nat.reduceMul, Nat.reduceLT, Int.reduceEq, Int.reduceLT, Int.reduceLE, Int.reduceBEq, Int.reduceBNe, Int.reduceToNat, Int.reduceNeg, Int.reduceSub, Int.reduceAdd, byL_len, hu, hw2, hspi, hp1, hc]
          exact post_same h hS (by omega) hold1
        · have hspi : ¬ (b.length : Int) > d.room - (u : Int) := by omega
          simp only [push_cast, Nat.reduceBEq, Nat.reduceAdd, Nat.reduceEqDiff, reduceCtorEq, Nat.reduceLeDiff, Nat.reduceSub, Nat.reduceMul, Nat.reduceLT, Int.reduceEq, Int.reduceLT, Int.reduceLE, Int.reduceBEq, Int.reduceBNe, Int.reduceToNat, Int.reduceNeg, Int.reduceSub, Int.reduceAdd, byL_len, hu, hw2, hspi, hp1]
          refine callH (chg_h h1 hok) ?_
          rintro _ H2 _ ⟨rfl, rfl, h2, hold2⟩
          have hold : ∀ j, j < n → j ≠ p → H2 j = H j := fun j hj hjp => (hold2 j hjp).trans (hold1 j hj)
          rcases chg_cases d with ⟨hcc, hce⟩ | ⟨hcc, _⟩
          · have hc : d.append s b = (d.chg.1, 4) := by rw [hspec, if_neg hbig, if_neg hsp, if_pos (by rw [hcc]; decide), ← hcc]
            simp only [push_cast, Nat.reduceBEq, Nat.reduceAdd, Nat.reduceEqDiff, reduceCtorEq, Nat.reduceLeDiff, Nat.reduceSub, Nat.reduceMul, Nat.reduceLT, Int.reduceEq, Int.reduceLT, Int.reduceLE, Int.reduceBEq, Int.reduceBNe, Int.reduceToNat, Int.reduceNeg, Int.reduceSub, Int.reduceAdd, hcc, hc]
            exact post_top h2 hS (by omega) hold
          · have hc : d.append s b = (d.chg.1.setFile i ⟨(d.file i).b ++ b, (d.file i).last⟩, 0) := by rw [hspec, if_neg hbig, if_neg hsp, if_neg (by rw [hcc]; decide)]
            have hfp : L.fid i ≠ p := fun e => by rw [e, htop] at hb1; injection hb1 with hb1; injection hb1 with hb1; simp at hb1
            have hb3 := (hold _ (hS _ hSf.1) hfp).trans hb1
            have hrp : L.rid i ≠ p := fun e => by rw [e, htop] at hrow; cases hrow
            have hr3 := (hold _ (hS _ hSf.2) hrp).trans hrow
            have er : (n + 1 == L.rid i) = false := nb (by have := hS _ hSf.2; omega)
            have er' : (L.rid i == L.fid i) = false := nb (fun e => by rw [e, hb1] at hrow; cases hrow)
            have er2 : (L.fid i == L.rid i) = false := nb (fun e => by rw [← e, hb1] at hrow; cases hrow)
            have hbd : (ln + b.length) * 1 ≤ 140737488355328 := by omega
            have hbd' : ln + b.length ≤ 140737488355328 := by omega
            simp only [push_cast, Nat.reduceBEq, Nat.reduceAdd, Nat.reduceEqDiff, reduceCtorEq, Nat.reduceLeDiff, Nat.reduceSub, Nat.reduceMul, Nat.reduceLT, Int.reduceEq, Int.reduceLT, Int.reduceLE, Int.reduceBEq, Int.reduceBNe, Int.reduceToNat, Int.reduceNeg, Int.reduceSub, Int.reduceAdd, hcc, hc, hb3, e0, e0', byL_len, byL_one, hr3, er, er', er2, hln, hbd, hbd', byL_len, byL_one, byL_app]
            refine fin H2 _ ((d.file i).b ++ b) hold h2 rfl ?_ ?_ fun j hj a1 a2 => ?_
            · rw [upd_same, List.length_append, hln]
            · rw [upd_other (by have := hS _ hSf.1; omega), upd_same]
            · rw [upd_other (fun e => a1 e.symm), upd_other (by omega), upd_other (fun e => a2 e.symm)]
theorem append_ok {d : FsD} (hok : FsOk d) (s : ByteArray) (b : List UInt8) : FsOk (d.append s b).1 := by
  unfold FsD.append
  rcases find_code d s with ⟨hn, hf⟩ | ⟨hn, hlk, hf⟩ | ⟨i, hn, hlk, hf⟩ <;> rw [hf] <;> simp only
  · exact hok
  · exact hok
  · split
    · exact hok
    · rename_i h1
      split
      · exact hok
      · split
        · exact chg_ok hok
        · refine setFile_ok (chg_ok hok) i ⟨by show ((d.file i).b ++ b).length ≤ _; rw [List.length_append]; omega, ?_⟩
          have := (hok.len i _ (find_file hok hlk).2).2
          show (d.file i).last ≤ ((d.file i).b ++ b).length
          rw [List.length_append]; omega
end Go.Proofs.YtjmafbdakalknaaDoor
