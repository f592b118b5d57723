/- Files that a crash may cut: Append, Sync, Size, by the walk over a heap. -/
import Derived.Test.YtjmafbdakalknaaDoorFsCalls
set_option linter.unusedVariables false
set_option linter.unusedSimpArgs false
namespace Go.Proofs.YtjmafbdakalknaaDoor
open Go Go.RowKit Hv
set_option maxRecDepth 20000
set_option maxHeartbeats 4000000
theorem FsH.notFile {H : Hp} {S : Nat → Prop} {p : Nat} {L : FsL} {d : FsD} (h : FsH H S p L d) {i j : Nat} (hi : i < d.files.length) {o : AO} (ho : H j = some o) (hc : ∀ cs, o = .cells cs → cs.length ≠ 2) (hr : ∀ its, o ≠ .row true 5 its) : j ≠ L.fid i ∧ j ≠ L.rid i := by
  obtain ⟨bv, h1, h2⟩ := h.file i _ (List.getElem?_eq_getElem hi)
  have hf : j ≠ L.fid i := fun e => by
    rw [e, h1] at ho
    injection ho with ho
    exact hc _ ho.symm rfl
  refine ⟨hf, ?_⟩
  rcases h2 with ⟨_, _, h2⟩ | ⟨_, h2⟩
  · rw [h2]; exact hf
  · intro e
    rw [e, h2] at ho
    injection ho with ho
    exact hr _ ho.symm
/-- A file turns. -/
theorem FsH.refile {H H' : Hp} {S : Nat → Prop} {n p i r' : Nat} {L : FsL} {d : FsD} {x' : FileD} {bv' : AV} (h : FsH H S p L d) (hS : ∀ j, S j → j < n) (hi : i < d.files.length) (hr' : r' = L.rid i ∨ n ≤ r')
    (hc : H' (L.fid i) = some (.cells [bv', .lit (.int .i64 (x'.last : Int))])) (hbv : BV H' (L.fid i) r' bv' x'.b) (hh : ∀ j, S j → j ≠ L.fid i → j ≠ L.rid i → H' j = H j) :
    FsH H' (fun j => S j ∨ j = r') p { L with rid := fun k => if k = i then r' else L.rid k } (d.setFile i x') := by
  have keep : ∀ j o, S j → H j = some o → (∀ cs, o = .cells cs → cs.length ≠ 2) → (∀ its, o ≠ .row true 5 its) → H' j = some o := fun j o hs ho h1 h2 => by
    obtain ⟨a, b⟩ := h.notFile hi ho h1 h2
    rw [hh j hs a b]; exact ho
  have hlen : (d.files.set i x').length = d.files.length := List.length_set ..
  have hfr : ∀ k, k < d.files.length → k ≠ i → L.fid k ≠ L.rid i ∧ L.rid k ≠ L.fid i := fun k hk hki => by
    obtain ⟨bv, a1, a2⟩ := h.file i _ (List.getElem?_eq_getElem hi)
    obtain ⟨bv2, b1, b2⟩ := h.file k _ (List.getElem?_eq_getElem hk)
    constructor
    · rcases a2 with ⟨_, _, a2⟩ | ⟨_, a2⟩
      · rw [a2]; exact fun e => hki (h.finj k i hk hi e)
      · intro e; rw [e, a2] at b1; cases b1
    · rcases b2 with ⟨_, _, b2⟩ | ⟨_, b2⟩
      · rw [b2]; exact fun e => hki (h.finj k i hk hi e)
      · intro e; rw [e, a1] at b2; cases b2
  refine ⟨keep _ _ h.Sp h.top (fun cs e => by injection e with e; rw [← e]; simp [topA]) (fun _ e => by cases e), keep _ _ h.Sn h.now (fun cs e => by unfold mapA at e; cases e) (fun _ e => by unfold mapA at e; cases e), keep _ _ h.Sl h.last (fun cs e => by unfold mapA at e; cases e) (fun _ e => by unfold mapA at e; cases e), h.ne, fun k y hy => ?_, fun a b ha hb e => h.finj a b (by rw [← hlen]; exact ha) (by rw [← hlen]; exact hb) e, fun a b ha hb e => ?_, h.wait.keep (fun j its hs e => keep j _ hs e (fun _ e => by cases e) (fun _ e => by cases e)) (fun j cs hs hl e => keep j _ hs e (fun cs' e => by injection e with e; rw [← e]; omega) (fun _ e => by cases e)) (fun _ hs => .inl hs), .inl h.Sp, .inl h.Sn, .inl h.Sl, fun k hk => ?_⟩
  · have hy' : (d.files.set i x')[k]? = some y := hy
    by_cases hki : k = i
    · subst hki
      rw [List.getElem?_set_self hi] at hy'
      injection hy' with hy'
      subst hy'
      refine ⟨bv', hc, ?_⟩
      show BV H' (L.fid k) (if k = k then r' else L.rid k) bv' x'.b
      rw [if_pos rfl]; exact hbv
    · rw [List.getElem?_set_ne (fun e => hki e.symm)] at hy'
      have hk := (List.getElem?_eq_some_iff.1 hy').1
      obtain ⟨bv, b1, b2⟩ := h.file k y hy'
      obtain ⟨f1, f2⟩ := hfr k hk hki
      have hs := h.Sf k hk
      refine ⟨bv, (hh _ hs.1 (fun e => hki (h.finj k i hk hi e)) f1).trans b1, ?_⟩
      show BV H' (L.fid k) (if k = i then r' else L.rid k) bv y.b
      rw [if_neg hki]
      exact b2.keep (hh _ hs.2 f2 (fun e => hki (h.rinj k i hk hi e)))
  · have ha' : a < d.files.length := by rw [← hlen]; exact ha
    have hb' : b < d.files.length := by rw [← hlen]; exact hb
    have e' : (if a = i then r' else L.rid a) = (if b = i then r' else L.rid b) := e
    by_cases h1 : a = i
    · by_cases h2 : b = i
      · omega
      · rw [if_pos h1, if_neg h2] at e'
        rcases hr' with hr' | hr'
        · rw [hr'] at e'; exact absurd (h.rinj i b hi hb' e') (fun e => h2 e.symm)
        · have := hS _ (h.Sf b hb').2; omega
    · by_cases h2 : b = i
      · rw [if_neg h1, if_pos h2] at e'
        rcases hr' with hr' | hr'
        · rw [hr'] at e'; exact absurd (h.rinj a i ha' hi e') h1
        · have := hS _ (h.Sf a ha').2; omega
      · rw [if_neg h1, if_neg h2] at e'
        exact h.rinj a b ha' hb' e'
  · have hk' : k < d.files.length := by rw [← hlen]; exact hk
    have hs := h.Sf k hk'
    refine ⟨.inl hs.1, ?_⟩
    show S (if k = i then r' else L.rid k) ∨ (if k = i then r' else L.rid k) = r'
    by_cases h1 : k = i
    · rw [if_pos h1]; exact .inr rfl
    · rw [if_neg h1]; exact .inl hs.2
theorem find_file {d : FsD} (hok : FsOk d) {s : ByteArray} {i : Nat} (h : lookE d.now.1 s = some i) : i < d.files.length ∧ d.files[i]? = some (d.file i) := by
  have hlt := hok.look h
  exact ⟨hlt, by unfold FsD.file; rw [List.getElem?_eq_getElem hlt]; rfl⟩
theorem size_h {H : Hp} {S : Nat → Prop} {n p : Nat} {L : FsL} {d : FsD} (h : FsH H S p L d) (hok : FsOk d) (s : ByteArray) :
    HCalls Tryd.prog 19 [.ptr p 0, .lit (.string s)] H n fun r H' n' => H' = H ∧ n' = n ∧ r = .tup [.lit (.int .i64 (d.size s).1), .lit (.int .i64 (d.size s).2)] := by
  refine hcallsC_of (rs := [.tmp 4, .tmp 5]) ⟨[0, 1, 4, 5, 6, 7, 15, 19], [], [], []⟩ TOk mixed Tryd.func19 rfl rfl (by kernel_rfl) (by kernel_rfl) rfl ?_
  simp only [push_cast, Nat.reduceBEq, Nat.reduceAdd, Nat.reduceEqDiff, reduceCtorEq, Nat.reduceLeDiff, Nat.reduceSub, Nat.reduceMul, Nat.reduceLT, Int.reduceEq, Int.reduceLT, Int.reduceLE, Int.reduceBEq, Int.reduceBNe, Int.reduceToNat, Int.reduceNeg, Int.reduceSub, Int.reduceAdd]
  refine callH (find_h h hok s) ?_
  rintro _ H n ⟨rfl, rfl, rfl⟩
  rcases find_code d s with ⟨hn, hf⟩ | ⟨hn, hlk, hf⟩ | ⟨i, hn, hlk, hf⟩
  · have hc : d.size s = (0, 6) := by unfold FsD.size; rw [hf]
    simp only [push_cast, Nat.reduceBEq, Nat.reduceAdd, Nat.reduceEqDiff, reduceCtorEq, Nat.reduceLeDiff, Nat.reduceSub, Nat.reduceMul, Nat.reduceLT, Int.reduceEq, Int.reduceLT, Int.reduceLE, Int.reduceBEq, Int.reduceBNe, Int.reduceToNat, Int.reduceNeg, Int.reduceSub, Int.reduceAdd, hf, hc]
  · have hc : d.size s = (0, 7) := by unfold FsD.size; rw [hf]
    simp only [push_cast, Nat.reduceBEq, Nat.reduceAdd, Nat.reduceEqDiff, reduceCtorEq, Nat.reduceLeDiff, Nat.reduceSub, Nat.reduceMul, Nat.reduceLT, Int.reduceEq, Int.reduceLT, Int.reduceLE, Int.reduceBEq, Int.reduceBNe, Int.reduceToNat, Int.reduceNeg, Int.reduceSub, Int.reduceAdd, hf, hc]
  · obtain ⟨hlt, hfx⟩ := find_file hok hlk
    obtain ⟨bv, hb1, hb2⟩ := h.file _ _ hfx
    simp only [push_cast, Nat.reduceBEq, Nat.reduceAdd, Nat.reduceEqDiff, reduceCtorEq, Nat.reduceLeDiff, Nat.reduceSub, Nat.reduceMul, Nat.reduceLT, Int.reduceEq, Int.reduceLT, Int.reduceLE, Int.reduceBEq, Int.reduceBNe, Int.reduceToNat, Int.reduceNeg, Int.reduceSub, Int.reduceAdd, hf]
    refine callH (asks_h h) ?_
    rintro _ H n ⟨rfl, rfl, rfl⟩
    cases ho : d.off with
    | true =>
      have ha : d.asks = 4 := by unfold FsD.asks; rw [ho]; rfl
      have hc : d.size s = (0, 4) := by unfold FsD.size; rw [hf]; simp only; rw [ha, if_pos (by decide)]
      simp only [push_cast, Nat.reduceBEq, Nat.reduceAdd, Nat.reduceEqDiff, reduceCtorEq, Nat.reduceLeDiff, Nat.reduceSub, Nat.reduceMul, Nat.reduceLT, Int.reduceEq, Int.reduceLT, Int.reduceLE, Int.reduceBEq, Int.reduceBNe, Int.reduceToNat, Int.reduceNeg, Int.reduceSub, Int.reduceAdd, ha, hc]
    | false =>
      have ha : d.asks = 0 := by unfold FsD.asks; rw [ho]; rfl
      have hc : d.size s = (((d.file i).b.length : Int), 0) := by unfold FsD.size; rw [hf]; simp only; rw [ha, if_neg (by decide)]
      rcases hb2 with ⟨rfl, hl, _⟩ | ⟨rfl, hrow⟩
      · rw [hl] at hc
        simp only [push_cast, Nat.reduceBEq, Nat.reduceAdd, Nat.reduceEqDiff, reduceCtorEq, Nat.reduceLeDiff, Nat.reduceSub, Nat.reduceMul, Nat.reduceLT, Int.reduceEq, Int.reduceLT, Int.reduceLE, Int.reduceBEq, Int.reduceBNe, Int.reduceToNat, Int.reduceNeg, Int.reduceSub, Int.reduceAdd, ha, hc, hb1]
      · simp only [push_cast, Nat.reduceBEq, Nat.reduceAdd, Nat.reduceEqDiff, reduceCtorEq, Nat.reduceLeDiff, Nat.reduceSub, Nat.reduceMul, Nat.reduceLT, Int.reduceEq, Int.reduceLT, Int.reduceLE, Int.reduceBEq, Int.reduceBNe, Int.reduceToNat, Int.reduceNeg, Int.reduceSub, Int.reduceAdd, ha, hc, hb1]
theorem sync_h {H : Hp} {S : Nat → Prop} {n p : Nat} {L : FsL} {d : FsD} (h : FsH H S p L d) (hok : FsOk d) (hS : ∀ j, S j → j < n) (s : ByteArray) :
    HCalls Tryd.prog 14 [.ptr p 0, .lit (.string s)] H n (FsPost H n S p (d.sync s).1 (.lit (.int .i64 (d.sync s).2))) := by
  refine hcallsC_of (rs := [.tmp 4]) ⟨[0, 1, 4, 5, 6, 14, 18], [], [], []⟩ TOk mixed Tryd.func14 rfl rfl (by kernel_rfl) (by kernel_rfl) rfl ?_
  simp only [push_cast, Nat.reduceBEq, Nat.reduceAdd, Nat.reduceEqDiff, reduceCtorEq, Nat.reduceLeDiff, Nat.reduceSub, Nat.reduceMul, Nat.reduceLT, Int.reduceEq, Int.reduceLT, Int.reduceLE, Int.reduceBEq, Int.reduceBNe, Int.reduceToNat, Int.reduceNeg, Int.reduceSub, Int.reduceAdd]
  refine callH (find_h h hok s) ?_
  rintro _ H n ⟨rfl, rfl, rfl⟩
  rcases find_code d s with ⟨hn, hf⟩ | ⟨hn, hlk, hf⟩ | ⟨i, hn, hlk, hf⟩
  · have hc : d.sync s = (d, 6) := by unfold FsD.sync; rw [hf]
    simp only [push_cast, Nat.reduceBEq, Nat.reduceAdd, Nat.reduceEqDiff, reduceCtorEq, Nat.reduceLeDiff, Nat.reduceSub, Nat.reduceMul, Nat.reduceLT, Int.reduceEq, Int.reduceLT, Int.reduceLE, Int.reduceBEq, Int.reduceBNe, Int.reduceToNat, Int.reduceNeg, Int.reduceSub, Int.reduceAdd, hf, hc]
    exact post_same h hS (Nat.le_refl _) (fun _ _ => rfl)
  · have hc : d.sync s = (d, 7) := by unfold FsD.sync; rw [hf]
    simp only [push_cast, Nat.reduceBEq, Nat.reduceAdd, Nat.reduceEqDiff, reduceCtorEq, Nat.reduceLeDiff, Nat.reduceSub, Nat.reduceMul, Nat.reduceLT, Int.reduceEq, Int.reduceLT, Int.reduceLE, Int.reduceBEq, Int.reduceBNe, Int.reduceToNat, Int.reduceNeg, Int.reduceSub, Int.reduceAdd, hf, hc]
    exact post_same h hS (Nat.le_refl _) (fun _ _ => rfl)
  · obtain ⟨hlt, hfx⟩ := find_file hok hlk
    simp only [push_cast, Nat.reduceBEq, Nat.reduceAdd, Nat.reduceEqDiff, reduceCtorEq, Nat.reduceLeDiff, Nat.reduceSub, Nat.reduceMul, Nat.reduceLT, Int.reduceEq, Int.reduceLT, Int.reduceLE, Int.reduceBEq, Int.reduceBNe, Int.reduceToNat, Int.reduceNeg, Int.reduceSub, Int.reduceAdd, hf]
    refine callH (chg_h h hok) ?_
    rintro _ H2 n ⟨rfl, rfl, h2, hold2⟩
    obtain ⟨q1, q2, q3, q4, q5⟩ := chg_same d
    rcases chg_cases d with ⟨hcc, hce⟩ | ⟨hcc, _⟩
    · have hc : d.sync s = (d.chg.1, 4) := by unfold FsD.sync; rw [hf]; simp only; rw [if_pos (by rw [hcc]; decide), ← hcc]
      simp only [push_cast, Nat.reduceBEq, Nat.reduceAdd, Nat.reduceEqDiff, reduceCtorEq, Nat.reduceLeDiff, Nat.reduceSub, Nat.reduceMul, Nat.reduceLT, Int.reduceEq, Int.reduceLT, Int.reduceLE, Int.reduceBEq, Int.reduceBNe, Int.reduceToNat, Int.reduceNeg, Int.reduceSub, Int.reduceAdd, hcc, hc]
      exact post_top h2 hS (Nat.le_refl _) fun j hj hjp => hold2 j hjp
    · have hc : d.sync s = (d.chg.1.setFile i ⟨(d.file i).b, (d.file i).b.length⟩, 0) := by unfold FsD.sync; rw [hf]; simp only; rw [if_neg (by rw [hcc]; decide)]
      have hfx2 : d.chg.1.files[i]? = some (d.file i) := by rw [q2]; exact hfx
      have hlt2 : i < d.chg.1.files.length := by rw [q2]; exact hlt
      obtain ⟨bv, hb1, hb2⟩ := h2.file _ _ hfx2
      have hSf := h2.Sf i hlt2
      have fin : ∀ (bv : AV), BV H2 (L.fid i) (L.rid i) bv (d.file i).b → FsPost H n S p (d.chg.1.setFile i ⟨(d.file i).b, (d.file i).b.length⟩) (.lit (.int .i64 0)) (.lit (.int .i64 0)) (upd H2 (L.fid i) (some (.cells [bv, .lit (.int .i64 ((d.file i).b.length : Int))]))) n := fun bv hbv => by
        have hne : ∀ m its, H2 (L.rid i) = some (.row m 5 its) → L.fid i ≠ L.rid i := fun m its e1 e2 => by rw [← e2, hb1] at e1; cases e1
        have h3 := h2.refile (H' := upd H2 (L.fid i) (some (.cells [bv, .lit (.int .i64 ((d.file i).b.length : Int))]))) (x' := ⟨(d.file i).b, (d.file i).b.length⟩) (r' := L.rid i) (bv' := bv) (n := n) hS hlt2 (.inl rfl) (upd_same _ _ _) (by
          rcases hbv with hbv | ⟨e1, e2⟩
          · exact .inl hbv
          · exact .inr ⟨e1, by rw [upd_other (hne _ _ e2)]; exact e2⟩) (fun j hj h1 h2 => upd_other (fun e => h1 e.symm))
        refine ⟨rfl, _, _, h3, Nat.le_refl _, fun j hj => ?_, fun j hj => ?_, fun j hj hs => ?_⟩
        · rcases hj with hj | hj
          · exact hS j hj
          · rw [hj]; exact hS _ hSf.2
        · rcases hj with hj | hj
          · exact .inl hj
          · rw [hj]; exact .inl hSf.2
        · rw [upd_other (fun e => hs (by rw [← e]; exact hSf.1))]
          exact hold2 j (fun e => hs (e ▸ h.Sp))
      rcases hb2 with ⟨rfl, hl, hr⟩ | ⟨rfl, hrow⟩
      · have := fin (.lit (.slice none 0 0)) (.inl ⟨rfl, hl, hr⟩)
        rw [hl] at this hc
        simp only [push_cast, Nat.reduceBEq, Nat.reduceAdd, Nat.reduceEqDiff, reduceCtorEq, Nat.reduceLeDiff, Nat.reduceSub, Nat.reduceMul, Nat.reduceLT, Int.reduceEq, Int.reduceLT, Int.reduceLE, Int.reduceBEq, Int.reduceBNe, Int.reduceToNat, Int.reduceNeg, Int.reduceSub, Int.reduceAdd, hcc, hc, hb1]
        exact this
      · have := fin _ (.inr ⟨rfl, hrow⟩)
        simp only [push_cast, Nat.reduceBEq, Nat.reduceAdd, Nat.reduceEqDiff, reduceCtorEq, Nat.reduceLeDiff, Nat.reduceSub, Nat.reduceMul, Nat.reduceLT, Int.reduceEq, Int.reduceLT, Int.reduceLE, Int.reduceBEq, Int.reduceBNe, Int.reduceToNat, Int.reduceNeg, Int.reduceSub, Int.reduceAdd, hcc, hc, hb1]
        exact this
theorem sync_ok' {d : FsD} (hok : FsOk d) (s : ByteArray) : FsOk (d.sync s).1 := by
  unfold FsD.sync
  rcases find_code d s with ⟨hn, hf⟩ | ⟨hn, hlk, hf⟩ | ⟨i, hn, hlk, hf⟩ <;> rw [hf] <;> simp only
  · exact hok
  · exact hok
  · split
    · exact chg_ok hok
    · exact setFile_ok (chg_ok hok) i ⟨file_len hok i, Nat.le_refl _⟩
end Go.Proofs.YtjmafbdakalknaaDoor
