/- Files that a crash may cut: Create, Remove, Rename, by the walk over a heap. -/
import Derived.Test.YtjmafbdakalknaaDoorFsOk
set_option linter.unusedVariables false
set_option linter.unusedSimpArgs false
namespace Go.Proofs.YtjmafbdakalknaaDoor
open Go Go.RowKit Hv
set_option maxRecDepth 20000
set_option maxHeartbeats 4000000
theorem find_code (d : FsD) (s : ByteArray) : (nameB s = false ∧ d.find s = (6, none)) ∨ (nameB s = true ∧ lookE d.now.1 s = none ∧ d.find s = (7, none)) ∨ ∃ i, nameB s = true ∧ lookE d.now.1 s = some i ∧ d.find s = (0, some i) := by
  unfold FsD.find
  cases hn : nameB s with
  | false => exact .inl ⟨rfl, rfl⟩
  | true =>
    cases hl : lookE d.now.1 s with
    | none => exact .inr (.inl ⟨rfl, rfl, rfl⟩)
    | some i => exact .inr (.inr ⟨i, rfl, rfl, rfl⟩)
/-- A new file. -/
theorem FsH.addFile {H H' : Hp} {S S' : Nat → Prop} {p k : Nat} {L : FsL} {d : FsD} (h : FsH H S p L d) (hok : FsOk d) (hS : ∀ j, S j → j < k) (hk : H' k = some (.cells [.lit (.slice none 0 0), .lit (.int .i64 0)])) (hh : ∀ j, S j → H' j = H j) (hS' : ∀ j, S j → S' j) (hk' : S' k) :
    FsH H' S' p { L with fid := fun i => if i = d.files.length then k else L.fid i, rid := fun i => if i = d.files.length then k else L.rid i } { d with files := d.files ++ [⟨[], 0⟩] } := by
  have hmap : ∀ e : DirD, (∀ x ∈ e.1, x.val < d.files.length ∧ nameB x.key = true) → mapA (fun i => if i = d.files.length then k else L.fid i) e = mapA L.fid e := fun e he => by
    unfold mapA
    congr 1
    refine List.map_congr_left fun x hx => ?_
    have hne : (if x.val = d.files.length then k else L.fid x.val) = L.fid x.val := if_neg (by have := (he x hx).1; omega)
    unfold Ent.me fA
    show (⟨strA x.key, .ptr (if x.val = d.files.length then k else L.fid x.val) 0, x.born⟩ : ME) = _
    rw [hne]
  refine ⟨(hh p h.Sp).trans h.top, ?_, ?_, h.ne, fun i x hx => ?_, fun i j hi hj e => ?_, fun i j hi hj e => ?_, ?_, hS' _ h.Sp, hS' _ h.Sn, hS' _ h.Sl, fun i hi => ?_⟩
  · exact (hh _ h.Sn).trans (by rw [h.now]; exact congrArg some (hmap d.now hok.nowI).symm)
  · exact (hh _ h.Sl).trans (by rw [h.last]; exact congrArg some (hmap d.last hok.lastI).symm)
  · by_cases hlt : i < d.files.length
    · have hx' : d.files[i]? = some x := by
        have : (d.files ++ [⟨[], 0⟩])[i]? = some x := hx
        rwa [List.getElem?_append_left hlt] at this
      obtain ⟨bv, h1, h2⟩ := h.file i x hx'
      have hs := h.Sf i hlt
      have e1 : (if i = d.files.length then k else L.fid i) = L.fid i := if_neg (by omega)
      have e2 : (if i = d.files.length then k else L.rid i) = L.rid i := if_neg (by omega)
      refine ⟨bv, ?_, ?_⟩
      · show H' (if i = d.files.length then k else L.fid i) = _
        rw [e1]; exact (hh _ hs.1).trans h1
      · show BV H' (if i = d.files.length then k else L.fid i) (if i = d.files.length then k else L.rid i) bv x.b
        rw [e1, e2]; exact h2.keep (hh _ hs.2)
    · have : (d.files ++ [⟨[], 0⟩])[i]? = some x := hx
      rw [List.getElem?_append_right (by omega)] at this
      have hi0 : i = d.files.length := by
        have := (List.getElem?_eq_some_iff.1 this).1
        simp only [List.length_cons, List.length_nil] at this; omega
      subst hi0
      simp only [Nat.sub_self, List.getElem?_cons_zero, Option.some.injEq] at this
      subst this
      refine ⟨.lit (.slice none 0 0), ?_, .inl ⟨rfl, rfl, ?_⟩⟩
      · show H' (if d.files.length = d.files.length then k else _) = _
        rw [if_pos rfl]; exact hk
      · show (if d.files.length = d.files.length then k else _) = (if d.files.length = d.files.length then k else _)
        rw [if_pos rfl, if_pos rfl]
  · have hi' : i < d.files.length + 1 := by simpa using hi
    have hj' : j < d.files.length + 1 := by simpa using hj
    have e' : (if i = d.files.length then k else L.fid i) = (if j = d.files.length then k else L.fid j) := e
    by_cases h1 : i = d.files.length
    · by_cases h2 : j = d.files.length
      · omega
      · rw [if_pos h1, if_neg h2] at e'
        have := hS _ (h.Sf j (by omega)).1; omega
    · by_cases h2 : j = d.files.length
      · rw [if_neg h1, if_pos h2] at e'
        have := hS _ (h.Sf i (by omega)).1; omega
      · rw [if_neg h1, if_neg h2] at e'
        exact h.finj i j (by omega) (by omega) e'
  · have hi' : i < d.files.length + 1 := by simpa using hi
    have hj' : j < d.files.length + 1 := by simpa using hj
    have e' : (if i = d.files.length then k else L.rid i) = (if j = d.files.length then k else L.rid j) := e
    by_cases h1 : i = d.files.length
    · by_cases h2 : j = d.files.length
      · omega
      · rw [if_pos h1, if_neg h2] at e'
        have := hS _ (h.Sf j (by omega)).2; omega
    · by_cases h2 : j = d.files.length
      · rw [if_neg h1, if_pos h2] at e'
        have := hS _ (h.Sf i (by omega)).2; omega
      · rw [if_neg h1, if_neg h2] at e'
        exact h.rinj i j (by omega) (by omega) e'
  · have hw := h.wait.keep (H' := H') (S' := S') (fun j _ hs e => (hh j hs).trans e) (fun j _ hs _ e => (hh j hs).trans e) hS'
    rcases hw with hw | ⟨r, items, h1, h2, h3, h4, h5⟩
    · exact .inl hw
    · refine .inr ⟨r, items, h1, h2, h3, h4, fun z it c hz hc => (h5 z it c hz hc).fid fun i hi => ?_⟩
      have := hok.waitI c (List.mem_of_getElem? hc)
      have hlt : i < d.files.length := by
        cases c with
        | new n j => have hj : j = i := hi; have h6 : j < d.files.length := this.1; omega
        | ren s t j => have hj : j = i := hi; have h6 : j < d.files.length := this.1; omega
        | rem n => exact False.elim hi
      exact if_neg (by omega)
  · have hi' : i < d.files.length + 1 := by simpa using hi
    by_cases h1 : i = d.files.length
    · show S' (if i = d.files.length then k else L.fid i) ∧ S' (if i = d.files.length then k else L.rid i)
      rw [if_pos h1, if_pos h1]; exact ⟨hk', hk'⟩
    · show S' (if i = d.files.length then k else L.fid i) ∧ S' (if i = d.files.length then k else L.rid i)
      rw [if_neg h1, if_neg h1]
      have := h.Sf i (by omega)
      exact ⟨hS' _ this.1, hS' _ this.2⟩
theorem post_same {H H' : Hp} {n n' : Nat} {S : Nat → Prop} {p : Nat} {L : FsL} {d : FsD} {res : AV} (h : FsH H S p L d) (hS : ∀ j, S j → j < n) (hn : n ≤ n') (hh : ∀ j, j < n → H' j = H j) : FsPost H n S p d res res H' n' :=
  ⟨rfl, S, L, h.frame (fun j hj => hh j (hS j hj)), hn, fun j hj => Nat.lt_of_lt_of_le (hS j hj) hn, fun j hj => .inl hj, fun j hj _ => hh j hj⟩
theorem post_top {H H' : Hp} {n n' : Nat} {S : Nat → Prop} {p : Nat} {L : FsL} {d : FsD} {res : AV} (h : FsH H' S p L d) (hS : ∀ j, S j → j < n) (hn : n ≤ n') (hh : ∀ j, j < n → j ≠ p → H' j = H j) : FsPost H n S p d res res H' n' :=
  ⟨rfl, S, L, h, hn, fun j hj => Nat.lt_of_lt_of_le (hS j hj) hn, fun j hj => .inl hj, fun j hj hs => hh j hj fun e => hs (e ▸ h.Sp)⟩
theorem create_h {H : Hp} {S : Nat → Prop} {n p : Nat} {L : FsL} {d : FsD} (h : FsH H S p L d) (hok : FsOk d) (hS : ∀ j, S j → j < n) (hw : d.wait.length ≤ 1000000) (s : ByteArray) :
    HCalls Tryd.prog 12 [.ptr p 0, .lit (.string s)] H n (FsPost H n S p (d.create s).1 (.lit (.int .i64 (d.create s).2))) := by
  refine hcallsC_of (rs := [.tmp 4]) ⟨[0, 1, 3, 4, 6, 7, 8, 15, 18, 22, 32], [], [], []⟩ TOk mixed Tryd.func12 rfl rfl (by kernel_rfl) (by kernel_rfl) rfl ?_
  have hpn := hS _ h.Sp
  simp only [push_cast, Nat.reduceBEq, Nat.reduceAdd, Nat.reduceEqDiff, reduceCtorEq, Nat.reduceLeDiff, Nat.reduceSub, Nat.reduceMul, Nat.reduceLT, Int.reduceEq, Int.reduceLT, Int.reduceLE, Int.reduceBEq, Int.reduceBNe, Int.reduceToNat, Int.reduceNeg, Int.reduceSub, Int.reduceAdd]
  have hb1 : ∀ j, j < n → upd H n (some (.cells [.lit (.string s)])) j = H j := fun j hj => upd_other (by omega)
  have h1 : FsH (upd H n (some (.cells [.lit (.string s)]))) S p L d := h.frame fun j hj => hb1 j (hS j hj)
  refine callH (find_h h1 hok s) ?_
  rintro _ _ _ ⟨rfl, rfl, rfl⟩
  rcases find_code d s with ⟨hn, hf⟩ | ⟨hn, hlk, hf⟩ | ⟨i, hn, hlk, hf⟩
  · have hc : d.create s = (d, 6) := by unfold FsD.create; rw [hf]; rfl
    simp only [push_cast, Nat.reduceBEq, Nat.reduceAdd, Nat.reduceEqDiff, reduceCtorEq, Nat.reduceLeDiff, Nat.reduceSub, Nat.reduceMul, Nat.reduceLT, Int.reduceEq, Int.reduceLT, Int.reduceLE, Int.reduceBEq, Int.reduceBNe, Int.reduceToNat, Int.reduceNeg, Int.reduceSub, Int.reduceAdd, hf, hc]
    exact post_same h hS (by omega) hb1
  · have h10 := h1.top
    have h11 := h1.now
    unfold topA at h10
    unfold mapA at h11
    by_cases h400 : 400 ≤ d.now.1.length
    · have hc : d.create s = (d, 14) := by unfold FsD.create; rw [hf, if_neg (by decide), if_neg (by decide), if_pos h400]
      have hi : (d.now.1.length : Int) ≥ 400 := by omega
      have e1 : (n == p) = false := nb (by omega)
      have e2 : (n == L.mn) = false := nb (by have := hS _ h.Sn; omega)
      rw [hb1 p hpn] at h10
      rw [hb1 _ (hS _ h.Sn)] at h11
      simp only [push_cast, Nat.reduceBEq, Nat.reduceAdd, Nat.reduceEqDiff, reduceCtorEq, Nat.reduceLeDiff, Nat.reduceSub, Nat.reduceMul, Nat.reduceLT, Int.reduceEq, Int.reduceLT, Int.reduceLE, Int.reduceBEq, Int.reduceBNe, Int.reduceToNat, Int.reduceNeg, Int.reduceSub, Int.reduceAdd, hf, h10, h11, hi, hc, e1, e2]
      exact post_same h hS (by omega) hb1
    · have hi : ¬ (d.now.1.length : Int) ≥ 400 := by omega
      have e1 : (n == p) = false := nb (by omega)
      have e2 : (n == L.mn) = false := nb (by have := hS _ h.Sn; omega)
      rw [hb1 p hpn] at h10
      rw [hb1 _ (hS _ h.Sn)] at h11
      simp only [push_cast, Nat.reduceBEq, Nat.reduceAdd, Nat.reduceEqDiff, reduceCtorEq, Nat.reduceLeDiff, Nat.reduceSub, Nat.reduceMul, Nat.reduceLT, Int.reduceEq, Int.reduceLT, Int.reduceLE, Int.reduceBEq, Int.reduceBNe, Int.reduceToNat, Int.reduceNeg, Int.reduceSub, Int.reduceAdd, hf, h10, h11, hi, e1, e2]
      refine callH (chg_h h1 hok) ?_
      rintro _ H2 _ ⟨rfl, rfl, h2, hold2⟩
      rcases chg_cases d with ⟨hcc, hce⟩ | ⟨hcc, _⟩
      · have hc : d.create s = (d.chg.1, 4) := by unfold FsD.create; rw [hf, if_neg (by decide), if_neg (by decide), if_neg h400, if_pos (by rw [hcc]; decide), ← hcc]
        simp only [push_cast, Nat.reduceBEq, Nat.reduceAdd, Nat.reduceEqDiff, reduceCtorEq, Nat.reduceLeDiff, Nat.reduceSub, Nat.reduceMul, Nat.reduceLT, Int.reduceEq, Int.reduceLT, Int.reduceLE, Int.reduceBEq, Int.reduceBNe, Int.reduceToNat, Int.reduceNeg, Int.reduceSub, Int.reduceAdd, hcc, hc]
        exact post_top h2 hS (by omega) fun j hj hjp => (hold2 j hjp).trans (hb1 j hj)
      · have hc : d.create s = (({ d.chg.1 with files := d.chg.1.files ++ [⟨[], 0⟩] } : FsD).doit (.new s d.files.length), 0) := by unfold FsD.create; rw [hf, if_neg (by decide), if_neg (by decide), if_neg h400, if_neg (by rw [hcc]; decide)]
        have hn2 : H2 n = some (.cells [.lit (.string s)]) := (hold2 n (by omega)).trans (upd_same _ _ _)
        simp only [push_cast, Nat.reduceBEq, Nat.reduceAdd, Nat.reduceEqDiff, reduceCtorEq, Nat.reduceLeDiff, Nat.reduceSub, Nat.reduceMul, Nat.reduceLT, Int.reduceEq, Int.reduceLT, Int.reduceLE, Int.reduceBEq, Int.reduceBNe, Int.reduceToNat, Int.reduceNeg, Int.reduceSub, Int.reduceAdd, hcc, hc, hn2, nbq1_0 n, nbq2_0 n, nbq0_1 n, nbq0_2 n, nbq1_2 n, nbq2_1 n]
        obtain ⟨q1, q2, q3, q4, q5⟩ := chg_same d
        generalize hH3 : upd (upd (upd H2 (n + 1) _) (n + 1 + 1) _) (n + 1 + 1) _ = H3
        have hg : ∀ j, j < n → H3 j = H2 j := fun j hj => by rw [← hH3, upd_other (by omega), upd_other (by omega), upd_other (by omega)]
        have g0 : H3 n = some (.cells [.lit (.string s)]) := by rw [← hH3, upd_other (by omega), upd_other (by omega), upd_other (by omega)]; exact hn2
        have g1 : H3 (n + 1) = some (.cells [.lit (.slice none 0 0), .lit (.int .i64 0)]) := by rw [← hH3, upd_other (by omega), upd_other (by omega), upd_same]
        have g2 : H3 (n + 1 + 1) = some (.cells [.ptr (n + 1) 0]) := by rw [← hH3, upd_same]
        clear hH3
        have h3 := h2.addFile (H' := H3) (S' := fun j => S j ∨ j = n ∨ j = n + 1 ∨ j = n + 1 + 1) (k := n + 1) (chg_ok hok) (fun j hj => by have := hS j hj; omega) g1 (fun j hj => hg j (hS j hj)) (fun j hj => .inl hj) (.inr (.inr (.inl rfl)))
        have hci : ChIs H3 (fun i => if i = d.chg.1.files.length then n + 1 else L.fid i) (fun j => S j ∨ j = n ∨ j = n + 1 ∨ j = n + 1 + 1) [.fn 36 [.ptr (n + 1 + 1) 0, .ptr n 0]] (.new s d.files.length) :=
          ⟨n + 1 + 1, n, rfl, by
            have hq : (if d.files.length = d.chg.1.files.length then n + 1 else L.fid d.files.length) = n + 1 := if_pos (by rw [q2])
            show H3 (n + 1 + 1) = some (.cells [.ptr (if d.files.length = d.chg.1.files.length then n + 1 else L.fid d.files.length) 0])
            rw [hq]; exact g2, g0, .inr (.inr (.inr rfl)), .inr (.inl rfl)⟩
        refine callH (do_h h3 (n := n + 1 + 1 + 1) (fun j hj => by rcases hj with hj | hj | hj | hj; (have := hS j hj; omega); all_goals omega) hci (by show d.chg.1.wait.length ≤ _; rw [q5]; exact hw)) ?_
        rintro _ H4 _ ⟨rfl, rfl, h4, hold4⟩
        simp only [push_cast, Nat.reduceBEq, Nat.reduceAdd, Nat.reduceEqDiff, reduceCtorEq, Nat.reduceLeDiff, Nat.reduceSub, Nat.reduceMul, Nat.reduceLT, Int.reduceEq, Int.reduceLT, Int.reduceLE, Int.reduceBEq, Int.reduceBNe, Int.reduceToNat, Int.reduceNeg, Int.reduceSub, Int.reduceAdd]
        refine ⟨rfl, _, _, h4, by omega, fun j hj => ?_, fun j hj => ?_, fun j hj hs => ?_⟩
        · rcases hj with (hj | hj | hj | hj) | hj
          · have := hS j hj; omega
          all_goals omega
        · rcases hj with (hj | hj | hj | hj) | hj
          · exact .inl hj
          all_goals exact .inr (by omega)
        · exact (hold4 j (by omega) (fun hj' => by rcases hj' with hj' | hj' | hj' | hj'; (exact hs hj'); all_goals omega)).trans ((hg j hj).trans ((hold2 j (fun e => hs (e ▸ h.Sp))).trans (hb1 j hj)))
  · have hc : d.create s = (d, 8) := by unfold FsD.create; rw [hf]; rfl
    simp only [push_cast, Nat.reduceBEq, Nat.reduceAdd, Nat.reduceEqDiff, reduceCtorEq, Nat.reduceLeDiff, Nat.reduceSub, Nat.reduceMul, Nat.reduceLT, Int.reduceEq, Int.reduceLT, Int.reduceLE, Int.reduceBEq, Int.reduceBNe, Int.reduceToNat, Int.reduceNeg, Int.reduceSub, Int.reduceAdd, hf, hc]
    exact post_same h hS (by omega) hb1
theorem app_room {c : ChD} {d : DirD} (h : (c.app d).1.length ≤ 400) : True := trivial
theorem create_ok {d : FsD} (hok : FsOk d) (s : ByteArray) : FsOk (d.create s).1 := by
  unfold FsD.create
  rcases find_code d s with ⟨hn, hf⟩ | ⟨hn, hlk, hf⟩ | ⟨i, hn, hlk, hf⟩ <;> rw [hf]
  · exact hok
  · rw [if_neg (by decide), if_neg (by decide)]
    split
    · exact hok
    · rename_i h4
      split
      · exact chg_ok hok
      · obtain ⟨q1, q2, q3, q4, q5⟩ := chg_same d
        refine doit_ok (addFile_ok (chg_ok hok)) ⟨by show d.files.length < (d.chg.1.files ++ [_]).length; rw [q2, List.length_append]; exact Nat.lt_succ_self _, hn⟩ ?_
        show (putE d.chg.1.now.1 d.chg.1.now.2 s d.files.length).1.length ≤ 400
        rw [q3]
        have := put_len d.now.1 d.now.2 s d.files.length
        omega
  · exact hok
theorem remove_h {H : Hp} {S : Nat → Prop} {n p : Nat} {L : FsL} {d : FsD} (h : FsH H S p L d) (hok : FsOk d) (hS : ∀ j, S j → j < n) (hw : d.wait.length ≤ 1000000) (s : ByteArray) :
    HCalls Tryd.prog 23 [.ptr p 0, .lit (.string s)] H n (FsPost H n S p (d.remove s).1 (.lit (.int .i64 (d.remove s).2))) := by
  refine hcallsC_of (rs := [.tmp 4]) ⟨[0, 1, 3, 4, 6, 14, 18], [], [], []⟩ TOk mixed Tryd.func23 rfl rfl (by kernel_rfl) (by kernel_rfl) rfl ?_
  have hpn := hS _ h.Sp
  simp only [push_cast, Nat.reduceBEq, Nat.reduceAdd, Nat.reduceEqDiff, reduceCtorEq, Nat.reduceLeDiff, Nat.reduceSub, Nat.reduceMul, Nat.reduceLT, Int.reduceEq, Int.reduceLT, Int.reduceLE, Int.reduceBEq, Int.reduceBNe, Int.reduceToNat, Int.reduceNeg, Int.reduceSub, Int.reduceAdd]
  have hb1 : ∀ j, j < n → upd H n (some (.cells [.lit (.string s)])) j = H j := fun j hj => upd_other (by omega)
  have h1 : FsH (upd H n (some (.cells [.lit (.string s)]))) S p L d := h.frame fun j hj => hb1 j (hS j hj)
  refine callH (find_h h1 hok s) ?_
  rintro _ _ _ ⟨rfl, rfl, rfl⟩
  rcases find_code d s with ⟨hn, hf⟩ | ⟨hn, hlk, hf⟩ | ⟨i, hn, hlk, hf⟩
  · have hc : d.remove s = (d, 6) := by unfold FsD.remove; rw [hf]
    simp only [push_cast, Nat.reduceBEq, Nat.reduceAdd, Nat.reduceEqDiff, reduceCtorEq, Nat.reduceLeDiff, Nat.reduceSub, Nat.reduceMul, Nat.reduceLT, Int.reduceEq, Int.reduceLT, Int.reduceLE, Int.reduceBEq, Int.reduceBNe, Int.reduceToNat, Int.reduceNeg, Int.reduceSub, Int.reduceAdd, hf, hc]
    exact post_same h hS (by omega) hb1
  · have hc : d.remove s = (d, 7) := by unfold FsD.remove; rw [hf]
    simp only [push_cast, Nat.reduceBEq, Nat.reduceAdd, Nat.reduceEqDiff, reduceCtorEq, Nat.reduceLeDiff, Nat.reduceSub, Nat.reduceMul, Nat.reduceLT, Int.reduceEq, Int.reduceLT, Int.reduceLE, Int.reduceBEq, Int.reduceBNe, Int.reduceToNat, Int.reduceNeg, Int.reduceSub, Int.reduceAdd, hf, hc]
    exact post_same h hS (by omega) hb1
  · simp only [push_cast, Nat.reduceBEq, Nat.reduceAdd, Nat.reduceEqDiff, reduceCtorEq, Nat.reduceLeDiff, Nat.reduceSub, Nat.reduceMul, Nat.reduceLT, Int.reduceEq, Int.reduceLT, Int.reduceLE, Int.reduceBEq, Int.reduceBNe, Int.reduceToNat, Int.reduceNeg, Int.reduceSub, Int.reduceAdd, hf]
    refine callH (chg_h h1 hok) ?_
    rintro _ H2 _ ⟨rfl, rfl, h2, hold2⟩
    rcases chg_cases d with ⟨hcc, hce⟩ | ⟨hcc, _⟩
    · have hc : d.remove s = (d.chg.1, 4) := by unfold FsD.remove; rw [hf]; simp only; rw [if_pos (by rw [hcc]; decide), ← hcc]
      simp only [push_cast, Nat.reduceBEq, Nat.reduceAdd, Nat.reduceEqDiff, reduceCtorEq, Nat.reduceLeDiff, Nat.reduceSub, Nat.reduceMul, Nat.reduceLT, Int.reduceEq, Int.reduceLT, Int.reduceLE, Int.reduceBEq, Int.reduceBNe, Int.reduceToNat, Int.reduceNeg, Int.reduceSub, Int.reduceAdd, hcc, hc]
      exact post_top h2 hS (by omega) fun j hj hjp => (hold2 j hjp).trans (hb1 j hj)
    · have hc : d.remove s = (d.chg.1.doit (.rem s), 0) := by unfold FsD.remove; rw [hf]; simp only; rw [if_neg (by rw [hcc]; decide)]
      have hn2 : H2 n = some (.cells [.lit (.string s)]) := (hold2 n (by omega)).trans (upd_same _ _ _)
      simp only [push_cast, Nat.reduceBEq, Nat.reduceAdd, Nat.reduceEqDiff, reduceCtorEq, Nat.reduceLeDiff, Nat.reduceSub, Nat.reduceMul, Nat.reduceLT, Int.reduceEq, Int.reduceLT, Int.reduceLE, Int.reduceBEq, Int.reduceBNe, Int.reduceToNat, Int.reduceNeg, Int.reduceSub, Int.reduceAdd, hcc, hc]
      have hci : ChIs H2 L.fid (fun j => S j ∨ j = n) [.fn 44 [.ptr n 0]] (.rem s) := ⟨n, rfl, hn2, .inr rfl⟩
      have h3 : FsH H2 (fun j => S j ∨ j = n) p L d.chg.1 := ⟨h2.top, h2.now, h2.last, h2.ne, h2.file, h2.finj, h2.rinj, h2.wait.keep (fun _ _ _ e => e) (fun _ _ _ _ e => e) (fun _ hs => .inl hs), .inl h2.Sp, .inl h2.Sn, .inl h2.Sl, fun i hi => ⟨.inl (h2.Sf i hi).1, .inl (h2.Sf i hi).2⟩⟩
      refine callH (do_h h3 (n := n + 1) (fun j hj => by rcases hj with hj | hj; (have := hS j hj; omega); omega) hci (by rw [(chg_same d).2.2.2.2]; exact hw)) ?_
      rintro _ H4 _ ⟨rfl, rfl, h4, hold4⟩
      simp only [push_cast, Nat.reduceBEq, Nat.reduceAdd, Nat.reduceEqDiff, reduceCtorEq, Nat.reduceLeDiff, Nat.reduceSub, Nat.reduceMul, Nat.reduceLT, Int.reduceEq, Int.reduceLT, Int.reduceLE, Int.reduceBEq, Int.reduceBNe, Int.reduceToNat, Int.reduceNeg, Int.reduceSub, Int.reduceAdd]
      refine ⟨rfl, _, _, h4, by omega, fun j hj => ?_, fun j hj => ?_, fun j hj hs => ?_⟩
      · rcases hj with (hj | hj) | hj
        · have := hS j hj; omega
        all_goals omega
      · rcases hj with (hj | hj) | hj
        · exact .inl hj
        all_goals exact .inr (by omega)
      · exact (hold4 j (by omega) (fun hj' => by rcases hj' with hj' | hj'; (exact hs hj'); omega)).trans ((hold2 j (fun e => hs (e ▸ h.Sp))).trans (hb1 j hj))
theorem remove_ok {d : FsD} (hok : FsOk d) (s : ByteArray) : FsOk (d.remove s).1 := by
  unfold FsD.remove
  rcases find_code d s with ⟨hn, hf⟩ | ⟨hn, hlk, hf⟩ | ⟨i, hn, hlk, hf⟩ <;> rw [hf] <;> simp only
  · exact hok
  · exact hok
  · split
    · exact chg_ok hok
    · refine doit_ok (chg_ok hok) trivial ?_
      show (delE d.chg.1.now.1 s).length ≤ 400
      have := del_len d.chg.1.now.1 s
      have := (chg_ok hok).nowL
      omega
end Go.Proofs.YtjmafbdakalknaaDoor
