/- Files that a crash may cut: Rename, SyncDir, List, by the walk over a heap. -/
import Derived.Test.YtjmafbdakalknaaDoorFsApp2
set_option linter.unusedVariables false
set_option linter.unusedSimpArgs false
namespace Go.Proofs.YtjmafbdakalknaaDoor
open Go Go.RowKit Hv
set_option maxRecDepth 20000
set_option maxHeartbeats 4000000
theorem FsH.wider {H : Hp} {S S' : Nat → Prop} {p : Nat} {L : FsL} {d : FsD} (h : FsH H S p L d) (hS : ∀ j, S j → S' j) : FsH H S' p L d :=
  ⟨h.top, h.now, h.last, h.ne, h.file, h.finj, h.rinj, h.wait.keep (fun _ _ _ e => e) (fun _ _ _ _ e => e) hS, hS _ h.Sp, hS _ h.Sn, hS _ h.Sl, fun i hi => ⟨hS _ (h.Sf i hi).1, hS _ (h.Sf i hi).2⟩⟩
theorem rename_h {H : Hp} {S : Nat → Prop} {n p : Nat} {L : FsL} {d : FsD} (h : FsH H S p L d) (hok : FsOk d) (hS : ∀ j, S j → j < n) (hw : d.wait.length ≤ 1000000) (s t : ByteArray) :
    HCalls Tryd.prog 22 [.ptr p 0, .lit (.string s), .lit (.string t)] H n (FsPost H n S p (d.rename s t).1 (.lit (.int .i64 (d.rename s t).2))) := by
  refine hcallsC_of (rs := [.tmp 6]) ⟨[0, 1, 2, 4, 5, 6, 7, 8, 15, 23, 32], [], [], []⟩ TOk mixed Tryd.func22 rfl rfl (by kernel_rfl) (by kernel_rfl) rfl ?_
  have hpn := hS _ h.Sp
  simp only [push_cast, Nat.reduceBEq, Nat.reduceAdd, Nat.reduceEqDiff, reduceCtorEq, Nat.reduceLeDiff, Nat.reduceSub, Nat.reduceMul, Nat.reduceLT, Int.reduceEq, Int.reduceLT, Int.reduceLE, Int.reduceBEq, Int.reduceBNe, Int.reduceToNat, Int.reduceNeg, Int.reduceSub, Int.reduceAdd, nbq0_1 n, nbq1_0 n]
  generalize hH1 : upd (upd H n (some (.cells [.lit (.string s)]))) (n + 1) (some (.cells [.lit (.string t)])) = H1
  have hb1 : ∀ j, j < n → H1 j = H j := fun j hj => by rw [← hH1, upd_other (by omega), upd_other (by omega)]
  have g0 : H1 n = some (.cells [.lit (.string s)]) := by rw [← hH1, upd_other (by omega), upd_same]
  have g1 : H1 (n + 1) = some (.cells [.lit (.string t)]) := by rw [← hH1, upd_same]
  clear hH1
  have h1 : FsH H1 S p L d := h.frame fun j hj => hb1 j (hS j hj)
  refine callK (isName_h t) ?_
  cases hnt : nameB t with
  | false =>
    have hc : d.rename s t = (d, 6) := by unfold FsD.rename; rw [hnt]; rfl
    simp only [push_cast, Nat.reduceBEq, Nat.reduceAdd, Nat.reduceEqDiff, reduceCtorEq, Nat.reduceLeDiff, Nat.reduceSub, Nat.reduceMul, Nat.reduceLT, Int.reduceEq, Int.reduceLT, Int.reduceLE, Int.reduceBEq, Int.reduceBNe, Int.reduceToNat, Int.reduceNeg, Int.reduceSub, Int.reduceAdd, hc]
    exact post_same h hS (by omega) hb1
  | true =>
    have hspec : d.rename s t = match d.find s with
      | (_, some i) => if d.chg.2 ≠ 0 then d.chg else if s = t then (d.chg.1, 0) else (d.chg.1.doit (.ren s t i), 0)
      | (e, none) => (d, e) := by unfold FsD.rename; rw [hnt]; rfl
    simp only [push_cast, Nat.reduceBEq, Nat.reduceAdd, Nat.reduceEqDiff, reduceCtorEq, Nat.reduceLeDiff, Nat.reduceSub, Nat.reduceMul, Nat.reduceLT, Int.reduceEq, Int.reduceLT, Int.reduceLE, Int.reduceBEq, Int.reduceBNe, Int.reduceToNat, Int.reduceNeg, Int.reduceSub, Int.reduceAdd, g0, g1]
    refine callH (find_h h1 hok s) ?_
    rintro _ H1 _ ⟨rfl, rfl, rfl⟩
    rcases find_code d s with ⟨hn, hf⟩ | ⟨hn, hlk, hf⟩ | ⟨i, hn, hlk, hf⟩
    · have hc : d.rename s t = (d, 6) := by rw [hspec, hf]
      simp only [push_cast, Nat.reduceBEq, Nat.reduceAdd, Nat.reduceEqDiff, reduceCtorEq, Nat.reduceLeDiff, Nat.reduceSub, Nat.reduceMul, Nat.reduceLT, Int.reduceEq, Int.reduceLT, Int.reduceLE, Int.reduceBEq, Int.reduceBNe, Int.reduceToNat, Int.reduceNeg, Int.reduceSub, Int.reduceAdd, hf, hc, g0, g1]
      exact post_same h hS (by omega) fun j hj => by rw [upd_other (by omega), upd_other (by omega)]; exact hb1 j hj
    · have hc : d.rename s t = (d, 7) := by rw [hspec, hf]
      simp only [push_cast, Nat.reduceBEq, Nat.reduceAdd, Nat.reduceEqDiff, reduceCtorEq, Nat.reduceLeDiff, Nat.reduceSub, Nat.reduceMul, Nat.reduceLT, Int.reduceEq, Int.reduceLT, Int.reduceLE, Int.reduceBEq, Int.reduceBNe, Int.reduceToNat, Int.reduceNeg, Int.reduceSub, Int.reduceAdd, hf, hc, g0, g1]
      exact post_same h hS (by omega) fun j hj => by rw [upd_other (by omega), upd_other (by omega)]; exact hb1 j hj
    · rw [hf] at hspec
      simp only [push_cast, Nat.reduceBEq, Nat.reduceAdd, Nat.reduceEqDiff, reduceCtorEq, Nat.reduceLeDiff, Nat.reduceSub, Nat.reduceMul, Nat.reduceLT, Int.reduceEq, Int.reduceLT, Int.reduceLE, Int.reduceBEq, Int.reduceBNe, Int.reduceToNat, Int.reduceNeg, Int.reduceSub, Int.reduceAdd, hf, g0, g1]
      generalize hH2 : upd (upd H1 (n + 1 + 1) _) (n + 1 + 1) _ = H2
      have hb2 : ∀ j, j < n + 2 → H2 j = H1 j := fun j hj => by rw [← hH2, upd_other (by omega), upd_other (by omega)]
      have k2 : H2 (n + 1 + 1) = some (.cells [.ptr (L.fid i) 0]) := by rw [← hH2, upd_same]
      clear hH2
      have h2 : FsH H2 S p L d := h1.frame fun j hj => hb2 j (by have := hS j hj; omega)
      refine callH (chg_h h2 hok) ?_
      rintro _ H3 _ ⟨rfl, rfl, h3, hold3⟩
      have k0 : H3 n = some (.cells [.lit (.string s)]) := (hold3 n (by omega)).trans ((hb2 n (by omega)).trans g0)
      have k1 : H3 (n + 1) = some (.cells [.lit (.string t)]) := (hold3 _ (by omega)).trans ((hb2 _ (by omega)).trans g1)
      have k3 : H3 (n + 1 + 1) = some (.cells [.ptr (L.fid i) 0]) := (hold3 _ (by omega)).trans k2
      have hold : ∀ j, j < n → j ≠ p → H3 j = H j := fun j hj hjp => (hold3 j hjp).trans ((hb2 j (by omega)).trans (hb1 j hj))
      rcases chg_cases d with ⟨hcc, hce⟩ | ⟨hcc, _⟩
      · have hc : d.rename s t = (d.chg.1, 4) := by rw [hspec]; simp only; rw [if_pos (by rw [hcc]; decide), ← hcc]
        simp only [push_cast, Nat.reduceBEq, Nat.reduceAdd, Nat.reduceEqDiff, reduceCtorEq, Nat.reduceLeDiff, Nat.reduceSub, Nat.reduceMul, Nat.reduceLT, Int.reduceEq, Int.reduceLT, Int.reduceLE, Int.reduceBEq, Int.reduceBNe, Int.reduceToNat, Int.reduceNeg, Int.reduceSub, Int.reduceAdd, hcc, hc]
        exact post_top h3 hS (by omega) hold
      · by_cases hst : s = t
        · have hc : d.rename s t = (d.chg.1, 0) := by rw [hspec]; simp only; rw [if_neg (by rw [hcc]; decide), if_pos hst]
          have hsb : (s.toList == t.toList) = true := by rw [hst]; simp
          simp only [push_cast, Nat.reduceBEq, Nat.reduceAdd, Nat.reduceEqDiff, reduceCtorEq, Nat.reduceLeDiff, Nat.reduceSub, Nat.reduceMul, Nat.reduceLT, Int.reduceEq, Int.reduceLT, Int.reduceLE, Int.reduceBEq, Int.reduceBNe, Int.reduceToNat, Int.reduceNeg, Int.reduceSub, Int.reduceAdd, hcc, hc, k0, k1, hsb]
          exact post_top h3 hS (by omega) hold
        · have hc : d.rename s t = (d.chg.1.doit (.ren s t i), 0) := by rw [hspec]; simp only; rw [if_neg (by rw [hcc]; decide), if_neg hst]
          have hsb : (s.toList == t.toList) = false := by
            rw [beq_eq_false_iff_ne]
            intro e
            rw [ByteArray.toList_eq, ByteArray.toList_eq] at e
            exact hst (by
              have e2 : s.data = t.data := Array.toList_inj.1 e
              cases s; cases t; simp only at e2; rw [e2])
          simp only [push_cast, Nat.reduceBEq, Nat.reduceAdd, Nat.reduceEqDiff, reduceCtorEq, Nat.reduceLeDiff, Nat.reduceSub, Nat.reduceMul, Nat.reduceLT, Int.reduceEq, Int.reduceLT, Int.reduceLE, Int.reduceBEq, Int.reduceBNe, Int.reduceToNat, Int.reduceNeg, Int.reduceSub, Int.reduceAdd, hcc, hc, k0, k1, hsb]
          have h4 : FsH H3 (fun j => S j ∨ n ≤ j ∧ j < n + 3) p L d.chg.1 := h3.wider fun j hj => .inl hj
          have hci : ChIs H3 L.fid (fun j => S j ∨ n ≤ j ∧ j < n + 3) [.fn 43 [.ptr n 0, .ptr (n + 1 + 1) 0, .ptr (n + 1) 0]] (.ren s t i) := ⟨n, n + 1 + 1, n + 1, rfl, k0, k3, k1, .inr ⟨Nat.le_refl _, by omega⟩, .inr ⟨by omega, by omega⟩, .inr ⟨by omega, by omega⟩⟩
          refine callH (do_h h4 (n := n + 1 + 1 + 1) (fun j hj => by rcases hj with hj | hj; (have := hS j hj; omega); omega) hci (by rw [(chg_same d).2.2.2.2]; exact hw)) ?_
          rintro _ H4 _ ⟨rfl, rfl, h5, hold4⟩
          simp only [push_cast, Nat.reduceBEq, Nat.reduceAdd, Nat.reduceEqDiff, reduceCtorEq, Nat.reduceLeDiff, Nat.reduceSub, Nat.reduceMul, Nat.reduceLT, Int.reduceEq, Int.reduceLT, Int.reduceLE, Int.reduceBEq, Int.reduceBNe, Int.reduceToNat, Int.reduceNeg, Int.reduceSub, Int.reduceAdd]
          refine ⟨rfl, _, _, h5, by omega, fun j hj => ?_, fun j hj => ?_, fun j hj hs => ?_⟩
          · rcases hj with (hj | hj) | hj
            · have := hS j hj; omega
            all_goals omega
          · rcases hj with (hj | hj) | hj
            · exact .inl hj
            all_goals exact .inr (by omega)
          · exact (hold4 j (by omega) (fun hj' => by rcases hj' with hj' | hj'; (exact hs hj'); omega)).trans (hold j hj (fun e => hs (by rw [e]; exact h.Sp)))
theorem rename_ok {d : FsD} (hok : FsOk d) (s t : ByteArray) : FsOk (d.rename s t).1 := by
  unfold FsD.rename
  cases hnt : nameB t with
  | false => exact hok
  | true =>
    rw [if_neg (by decide)]
    rcases find_code d s with ⟨hn, hf⟩ | ⟨hn, hlk, hf⟩ | ⟨i, hn, hlk, hf⟩ <;> rw [hf] <;> simp only
    · exact hok
    · exact hok
    · split
      · exact chg_ok hok
      · split
        · exact chg_ok hok
        · obtain ⟨q1, q2, q3, q4, q5⟩ := chg_same d
          refine doit_ok (chg_ok hok) ⟨by rw [q2]; exact hok.look hlk, hnt⟩ ?_
          show (putE (delE d.chg.1.now.1 s) d.chg.1.now.2 t i).1.length ≤ 400
          rw [q3]
          have h1 := put_len (delE d.now.1 s) d.now.2 t i
          have h2 : (delE d.now.1 s).length = d.now.1.length - 1 := by rw [len_del, hlk]; rfl
          have h3 : 0 < d.now.1.length := by
            obtain ⟨x, hx, _⟩ := lookE_mem hlk
            exact List.length_pos_of_mem hx
          have := hok.nowL
          omega
/-- The names last: the map is a new one, nothing waits. -/
theorem FsH.resync {H H' : Hp} {S : Nat → Prop} {n p : Nat} {L : FsL} {d : FsD} (h : FsH H S p L d) (hS : ∀ j, S j → j < n) (ht : H' p = some (.cells [.lit (.int .i64 d.room), .mp L.mn, .mp n, .lit (.slice none 0 0), .lit (.bool d.off), .lit (.bool d.armed), .lit (.int .i64 d.left)])) (hn : H' n = some (mapA L.fid d.now)) (hh : ∀ j, j < n → j ≠ p → H' j = H j) :
    FsH H' (fun j => S j ∨ j = n) p { L with ml := n, wv := .lit (.slice none 0 0) } { d with last := d.now, wait := [] } := by
  have keep : ∀ j o, S j → H j = some o → (∀ cs, o = .cells cs → cs.length ≠ 7) → H' j = some o := fun j o hs ho h1 => by
    rw [hh j (hS j hs) fun e => ?_]; exact ho
    rw [e, h.top] at ho
    injection ho with ho
    exact h1 _ ho.symm rfl
  refine ⟨ht, keep _ _ h.Sn h.now (fun cs e => by unfold mapA at e; cases e), hn, by have := hS _ h.Sn; show L.mn ≠ n; omega, fun i x hx => ?_, h.finj, h.rinj, .inl ⟨rfl, rfl⟩, .inl h.Sp, .inl h.Sn, .inr rfl, fun i hi => ⟨.inl (h.Sf i hi).1, .inl (h.Sf i hi).2⟩⟩
  obtain ⟨bv, h1, h2⟩ := h.file i x hx
  have hs := h.Sf i (List.getElem?_eq_some_iff.1 hx).1
  refine ⟨bv, keep _ _ hs.1 h1 (fun cs e => by injection e with e; rw [← e]; simp), ?_⟩
  rcases h2 with h2 | ⟨h2, h3⟩
  · exact .inl h2
  · exact .inr ⟨h2, keep _ _ hs.2 h3 (fun cs e => by cases e)⟩
theorem syncDir_h {H : Hp} {S : Nat → Prop} {n p : Nat} {L : FsL} {d : FsD} (h : FsH H S p L d) (hok : FsOk d) (hS : ∀ j, S j → j < n) :
    HCalls Tryd.prog 15 [.ptr p 0] H n (FsPost H n S p (d.syncDir).1 (.lit (.int .i64 (d.syncDir).2))) := by
  refine hcallsC_of (rs := [.tmp 2]) ⟨[0, 2, 3, 5, 9], [], [], []⟩ TOk mixed Tryd.func15 rfl rfl (by kernel_rfl) (by kernel_rfl) rfl ?_
  have hpn := hS _ h.Sp
  simp only [push_cast, Nat.reduceBEq, Nat.reduceAdd, Nat.reduceEqDiff, reduceCtorEq, Nat.reduceLeDiff, Nat.reduceSub, Nat.reduceMul, Nat.reduceLT, Int.reduceEq, Int.reduceLT, Int.reduceLE, Int.reduceBEq, Int.reduceBNe, Int.reduceToNat, Int.reduceNeg, Int.reduceSub, Int.reduceAdd]
  refine callH (chg_h h hok) ?_
  rintro _ H2 n ⟨rfl, rfl, h2, hold2⟩
  obtain ⟨q1, q2, q3, q4, q5⟩ := chg_same d
  rcases chg_cases d with ⟨hcc, hce⟩ | ⟨hcc, _⟩
  · have hc : d.syncDir = (d.chg.1, 4) := by unfold FsD.syncDir; rw [if_pos (by rw [hcc]; decide), ← hcc]
    simp only [push_cast, Nat.reduceBEq, Nat.reduceAdd, Nat.reduceEqDiff, reduceCtorEq, Nat.reduceLeDiff, Nat.reduceSub, Nat.reduceMul, Nat.reduceLT, Int.reduceEq, Int.reduceLT, Int.reduceLE, Int.reduceBEq, Int.reduceBNe, Int.reduceToNat, Int.reduceNeg, Int.reduceSub, Int.reduceAdd, hcc, hc]
    exact post_top h2 hS (Nat.le_refl _) fun j hj hjp => hold2 j hjp
  · have hc : d.syncDir = ({ d.chg.1 with last := d.chg.1.now, wait := [] }, 0) := by unfold FsD.syncDir; rw [if_neg (by rw [hcc]; decide)]
    have htop := h2.top
    unfold topA at htop
    simp only [push_cast, Nat.reduceBEq, Nat.reduceAdd, Nat.reduceEqDiff, reduceCtorEq, Nat.reduceLeDiff, Nat.reduceSub, Nat.reduceMul, Nat.reduceLT, Int.reduceEq, Int.reduceLT, Int.reduceLE, Int.reduceBEq, Int.reduceBNe, Int.reduceToNat, Int.reduceNeg, Int.reduceSub, Int.reduceAdd, hcc, hc, htop]
    refine callH (mapsClone_h h2.now) ?_
    rintro _ _ _ ⟨rfl, rfl, rfl⟩
    have e1 : (n == p) = false := nb (by omega)
    simp only [push_cast, Nat.reduceBEq, Nat.reduceAdd, Nat.reduceEqDiff, reduceCtorEq, Nat.reduceLeDiff, Nat.reduceSub, Nat.reduceMul, Nat.reduceLT, Int.reduceEq, Int.reduceLT, Int.reduceLE, Int.reduceBEq, Int.reduceBNe, Int.reduceToNat, Int.reduceNeg, Int.reduceSub, Int.reduceAdd, htop, e1, nbq0_1 n, nbq1_0 n]
    exact ⟨rfl, _, _, h2.resync hS (upd_same _ _ _) (by rw [upd_other (by omega), upd_other (by omega), upd_same]; rfl) (fun j hj hjp => by rw [upd_other (fun e => hjp e.symm), upd_other (fun e => hjp e.symm), upd_other (by omega)]), by omega, fun j hj => by rcases hj with hj | hj; (have := hS j hj; omega); omega, fun j hj => by rcases hj with hj | hj; exact .inl hj; exact .inr (by omega), fun j hj hs => by
      have hjp : j ≠ p := fun e => hs (by rw [e]; exact h.Sp)
      rw [upd_other (fun e => hjp e.symm), upd_other (fun e => hjp e.symm), upd_other (by omega)]
      exact hold2 j hjp⟩
theorem syncDir_ok {d : FsD} (hok : FsOk d) : FsOk d.syncDir.1 := by
  unfold FsD.syncDir
  split
  · exact chg_ok hok
  · exact sync_ok (chg_ok hok)
/-- Names that a call hands out: a row that nobody else has. -/
def OutN (H : Hp) (n : Nat) (l : List ByteArray) (e : Int) (r : AV) (H' : Hp) (n' : Nat) : Prop :=
  n ≤ n' ∧ (∀ j, j < n → H' j = H j) ∧ ∃ res, r = .tup [res, .lit (.int .i64 e)] ∧ ((res = .lit (.slice none 0 0) ∧ l = []) ∨ ∃ g m, res = .rw g 1 0 l.length ∧ n ≤ g ∧ g < n' ∧ H' g = some (.row m 9 (l.map strI)) ∧ (m = true ∨ l = []))
theorem list_h {H : Hp} {S : Nat → Prop} {n p : Nat} {L : FsL} {d : FsD} (h : FsH H S p L d) (hok : FsOk d) (hS : ∀ j, S j → j < n) :
    HCalls Tryd.prog 31 [.ptr p 0] H n (OutN H n d.list.1 d.list.2) := by
  refine hcallsC_of (rs := [.tmp 2, .tmp 3]) ⟨[0, 2, 3, 4, 6, 10], [], [], []⟩ TOk mixed Tryd.func31 rfl rfl (by kernel_rfl) (by kernel_rfl) rfl ?_
  have hpn := hS _ h.Sp
  simp only [push_cast, Nat.reduceBEq, Nat.reduceAdd, Nat.reduceEqDiff, reduceCtorEq, Nat.reduceLeDiff, Nat.reduceSub, Nat.reduceMul, Nat.reduceLT, Int.reduceEq, Int.reduceLT, Int.reduceLE, Int.reduceBEq, Int.reduceBNe, Int.reduceToNat, Int.reduceNeg, Int.reduceSub, Int.reduceAdd]
  have hold0 : ∀ j, j < n → upd H n (some (.row false 9 [])) j = H j := fun j hj => upd_other (by omega)
  have h1 : FsH (upd H n (some (.row false 9 []))) S p L d := h.frame fun j hj => hold0 j (hS j hj)
  refine callH (asks_h h1) ?_
  rintro _ _ _ ⟨rfl, rfl, rfl⟩
  cases ho : d.off with
  | true =>
    have ha : d.asks = 4 := by unfold FsD.asks; rw [ho]; rfl
    have hc : d.list = ([], 4) := by unfold FsD.list; rw [ha, if_pos (by decide)]
    simp only [push_cast, Nat.reduceBEq, Nat.reduceAdd, Nat.reduceEqDiff, reduceCtorEq, Nat.reduceLeDiff, Nat.reduceSub, Nat.reduceMul, Nat.reduceLT, Int.reduceEq, Int.reduceLT, Int.reduceLE, Int.reduceBEq, Int.reduceBNe, Int.reduceToNat, Int.reduceNeg, Int.reduceSub, Int.reduceAdd, ha, hc]
    exact ⟨by omega, fun j hj => by rw [upd_other (by omega)]; exact hold0 j hj, _, rfl, .inr ⟨n + 1, false, rfl, by omega, by omega, upd_same _ _ _, .inr rfl⟩⟩
  | false =>
    have ha : d.asks = 0 := by unfold FsD.asks; rw [ho]; rfl
    have hc : d.list = (d.names, 0) := by unfold FsD.list; rw [ha, if_neg (by decide)]
    have htop := h.top
    unfold topA at htop
    have e0 : (n == p) = false := nb (by omega)
    simp only [push_cast, Nat.reduceBEq, Nat.reduceAdd, Nat.reduceEqDiff, reduceCtorEq, Nat.reduceLeDiff, Nat.reduceSub, Nat.reduceMul, Nat.reduceLT, Int.reduceEq, Int.reduceLT, Int.reduceLE, Int.reduceBEq, Int.reduceBNe, Int.reduceToNat, Int.reduceNeg, Int.reduceSub, Int.reduceAdd, ha, htop, e0]
    refine callH keysOf_h ?_
    rintro _ _ _ ⟨rfl, rfl, rfl⟩
    simp only [push_cast, Nat.reduceBEq, Nat.reduceAdd, Nat.reduceEqDiff, reduceCtorEq, Nat.reduceLeDiff, Nat.reduceSub, Nat.reduceMul, Nat.reduceLT, Int.reduceEq, Int.reduceLT, Int.reduceLE, Int.reduceBEq, Int.reduceBNe, Int.reduceToNat, Int.reduceNeg, Int.reduceSub, Int.reduceAdd]
    have hm : upd (upd H n (some (.row false 9 []))) (n + 1) (some (.cells [.mp L.mn])) L.mn = some (mapA L.fid d.now) := by
      have := hS _ h.Sn
      rw [upd_other (by omega), upd_other (by omega)]; exact h.now
    refine callH (sortedKeys_h hm (upd_same _ _ _) hok.nowOk (fun e he => by have := nameB_size (hok.nowI e he).2; omega) (by have := hok.nowL; omega)) ?_
    rintro r H' n' (⟨rfl, hnl, rfl, rfl⟩ | ⟨rfl, rfl, rfl⟩)
    · simp only [push_cast, Nat.reduceBEq, Nat.reduceAdd, Nat.reduceEqDiff, reduceCtorEq, Nat.reduceLeDiff, Nat.reduceSub, Nat.reduceMul, Nat.reduceLT, Int.reduceEq, Int.reduceLT, Int.reduceLE, Int.reduceBEq, Int.reduceBNe, Int.reduceToNat, Int.reduceNeg, Int.reduceSub, Int.reduceAdd, hc]
      refine ⟨by omega, fun j hj => by rw [upd_other (by omega)]; exact hold0 j hj, _, rfl, .inl ⟨rfl, ?_⟩⟩
      unfold FsD.names
      rw [hnl]
      exact List.eq_nil_of_length_eq_zero (sortN_len _)
    · simp only [push_cast, Nat.reduceBEq, Nat.reduceAdd, Nat.reduceEqDiff, reduceCtorEq, Nat.reduceLeDiff, Nat.reduceSub, Nat.reduceMul, Nat.reduceLT, Int.reduceEq, Int.reduceLT, Int.reduceLE, Int.reduceBEq, Int.reduceBNe, Int.reduceToNat, Int.reduceNeg, Int.reduceSub, Int.reduceAdd, hc]
      refine ⟨by omega, fun j hj => by rw [upd_other (by omega), upd_other (by omega)]; exact hold0 j hj, _, rfl, .inr ⟨n + 1 + 1, true, ?_, by omega, by omega, upd_same _ _ _, .inl rfl⟩⟩
      unfold FsD.names
      rw [sortN_len, List.length_map]
end Go.Proofs.YtjmafbdakalknaaDoor
