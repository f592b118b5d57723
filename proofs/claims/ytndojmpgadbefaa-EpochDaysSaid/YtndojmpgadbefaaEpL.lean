/- Pools: a region by its number, a new region; by the walk over a heap. -/
import Derived.Test.YtndojmpgadbefaaEpP
set_option linter.unusedVariables false
set_option linter.unusedSimpArgs false
namespace Go.Proofs.Ytndojmpgadbefaa
open Go Go.RowKit Hv
set_option maxRecDepth 20000
set_option maxHeartbeats 4000000
section
variable {H H' : Hp} {n n' p : Nat} {S : Nat → Prop} {d : PoolD} {N : PoolN}
theorem land_h (h : PoolH H n S p N d) {i : Nat} {l : LandD} (hl : d.lands[i]? = some l) (ht : l.there = true) :
    HCalls Try.prog 56 [.ptr p 0, .lit (.int .i64 (i : Int))] H n fun r H' n' => r = .ptr p (3 + i * 4) ∧ H' = H ∧ n' = n := by
  refine hcallsC_of (rs := [.tmp 4]) ⟨[0, 1, 4, 20], [], [], [], []⟩ TOk mixed Try.func56 rfl rfl (by kernel_rfl) (by kernel_rfl) rfl ?_
  obtain ⟨v, hv, hlv, hi, hd⟩ := h.at hl
  have pl := h.pl
  have h1 : ¬ (i : Int) < 0 := by omega
  have h2 : ¬ (i : Int) ≥ 256 := by omega
  have h3 : (i : Int) < 256 := by omega
  have hdr : List.drop (3 + i * 4) (AV.lit (.int .i64 (d.size : Int)) :: .rw N.gs 1 0 d.slabs.length :: .rw N.gt 1 0 d.slabs.length :: landsC d.lands N.gl) = .lit (.bool l.there) :: .lit (.int .i64 (l.gen : Int)) :: v :: .lit (.int .i64 (l.fill : Int)) :: landsC (d.lands.drop (i + 1)) (N.gl.drop (i + 1)) := by
    rw [show 3 + i * 4 = i * 4 + 3 by omega]
    exact hd
  simp only [push_cast, Nat.reduceBEq, Nat.reduceAdd, Nat.reduceEqDiff, reduceCtorEq, Nat.reduceLeDiff, Nat.reduceSub, Nat.reduceMul, Nat.reduceLT, Int.reduceEq, Int.reduceLT, Int.reduceLE, Int.reduceBEq, Int.reduceBNe, Int.reduceToNat, Int.reduceNeg, Int.reduceSub, Int.reduceAdd, h1, h2, h3, pl, hdr, ht]
/-- A cell list's part at a region, as the walk asks for it. -/
theorem drop3 (a b c : AV) (L : List AV) (i : Nat) : List.drop (3 + i * 4) (a :: b :: c :: L) = List.drop (i * 4) L := by
  rw [show 3 + i * 4 = i * 4 + 3 by omega]; rfl
theorem drops {L R : List AV} {a g v f : AV} {i : Nat} (x y z : AV) (h : List.drop (i * 4) L = a :: g :: v :: f :: R) :
    List.drop (3 + i * 4) (x :: y :: z :: L) = a :: g :: v :: f :: R ∧ List.drop (3 + i * 4) (y :: z :: L) = g :: v :: f :: R ∧ List.drop (3 + i * 4) (z :: L) = v :: f :: R ∧ List.drop (3 + i * 4) L = f :: R := by
  have e : ∀ j, List.drop (i * 4 + j) L = List.drop j (a :: g :: v :: f :: R) := fun j => by rw [← h, List.drop_drop]
  refine ⟨?_, ?_, ?_, ?_⟩
  · rw [show 3 + i * 4 = i * 4 + 3 by omega]; exact h
  · rw [show 3 + i * 4 = i * 4 + 1 + 1 + 1 by omega]; exact e 1
  · rw [show 3 + i * 4 = i * 4 + 2 + 1 by omega]; exact e 2
  · rw [show 3 + i * 4 = i * 4 + 3 by omega]; exact e 3
theorem stores {ls : List LandD} {vs : List AV} {i : Nat} {l l' : LandD} {v v' a g f : AV} (x y z : AV) (h1 : ls[i]? = some l) (h2 : vs[i]? = some v) (hl : [a, g, v', f] = landC l' v') :
    List.take (3 + i * 4) (x :: y :: z :: landsC ls vs) ++ [a, g, v', f] ++ List.drop (3 + i * 4 + 1) (landsC ls vs) = x :: y :: z :: landsC (ls.set i l') (vs.set i v') := by
  rw [hl, show 3 + i * 4 = i * 4 + 1 + 1 + 1 by omega, show i * 4 + 1 + 1 + 1 + 1 = i * 4 + 4 by omega, ← landsC_at (l' := l') (v' := v') h1 h2, List.append_assoc]
  rfl
theorem set_same {α : Type} : ∀ {l : List α} {i : Nat} {x : α}, l[i]? = some x → l.set i x = l
  | a :: l, 0, x, h => by simp at h; rw [h]; rfl
  | a :: l, i + 1, x, h => by rw [List.set_cons_succ, set_same (by simpa using h)]
  | [], _, _, h => by simp at h
theorem store3 {ls : List LandD} {vs : List AV} {i : Nat} {l l' : LandD} {v f : AV} (h1 : ls[i]? = some l) (h2 : vs[i]? = some v) (hl : [.lit (.bool l.there), .lit (.int .i64 (l.gen : Int)), v, f] = landC l' v) :
    List.take (3 + i * 4) (landsC ls vs) ++ [f] ++ List.drop (3 + i * 4 + 1) (landsC ls vs) = landsC (ls.set i l') vs := by
  have e := landsC_at (l' := l') (v' := v) h1 h2
  rw [set_same h2, ← hl] at e
  rw [← e, show 3 + i * 4 = i * 4 + 3 by omega, List.take_add, landsC_drop h1 h2, List.append_assoc, List.append_assoc]
  rfl
theorem store2 {ls : List LandD} {vs : List AV} {i : Nat} {l : LandD} {v v' : AV} (z : AV) (h1 : ls[i]? = some l) (h2 : vs[i]? = some v) :
    List.take (3 + i * 4) (z :: landsC ls vs) ++ [v'] ++ List.drop (3 + i * 4) (landsC ls vs) = z :: landsC ls (vs.set i v') := by
  have e := landsC_at (l' := l) (v' := v') h1 h2
  rw [set_same h1] at e
  have e4 : List.drop (i * 4 + 3) (landsC ls vs) = .lit (.int .i64 (l.fill : Int)) :: List.drop (i * 4 + 4) (landsC ls vs) := by
    rw [show i * 4 + 4 = i * 4 + 3 + 1 by omega, ← List.drop_drop (i := 1) (j := i * 4 + 3), ← List.drop_drop (i := 3) (j := i * 4), landsC_drop h1 h2]; rfl
  rw [← e, show 3 + i * 4 = (i * 4 + 2) + 1 by omega, List.take_succ_cons, List.take_add, landsC_drop h1 h2, show i * 4 + 2 + 1 = i * 4 + 3 by omega, e4]
  simp [landC]
def PoolD.made (d : PoolD) (i : Nat) (l : LandD) : PoolD := ⟨d.size, d.slabs, d.taken, d.lands.set i ⟨true, l.gen + 1, [], 0⟩⟩
theorem PoolOk.land {d : PoolD} (h : PoolOk d) {i : Nat} {l' : LandD} (hl : l'.slabs.length ≤ 4096 ∧ (∀ s ∈ l'.slabs, s < d.slabs.length) ∧ l'.fill ≤ l'.slabs.length * d.size ∧ (l'.slabs.length - 1) * d.size ≤ l'.fill ∧ (l'.there = false → l'.slabs = [])) : PoolOk ⟨d.size, d.slabs, d.taken, d.lands.set i l'⟩ := by
  refine ⟨h.sz, h.k, h.bs, by rw [List.length_set]; exact h.ll, h.tl, fun l hm => ?_⟩
  rcases List.mem_or_eq_of_mem_set hm with hm | rfl
  · exact h.ls l hm
  · exact hl
/-- A region is another: without slabs. -/
theorem PoolH.empty (h : PoolH H n S p N d) {i : Nat} {l l' : LandD} (hl : d.lands[i]? = some l) (he : l'.slabs = []) (hf : l'.fill = 0) (hn : n ≤ n')
    (hc : H' p = some (.cells (.lit (.int .i64 (d.size : Int)) :: .rw N.gs 1 0 d.slabs.length :: .rw N.gt 1 0 d.slabs.length :: landsC (d.lands.set i l') (N.gl.set i nilV)))) (hh : ∀ j, j ≠ p → H' j = H j) :
    PoolH H' n' S p ⟨N.gs, N.gt, N.sb, N.gl.set i nilV⟩ ⟨d.size, d.slabs, d.taken, d.lands.set i l'⟩ := by
  have hp := h.pl
  have ne : ∀ {j o}, H j = some o → (∀ cs, o ≠ .cells cs) → H' j = some o := fun {j o} e hne => by
    rw [hh j (fun e' => by rw [e', hp] at e; injection e with e; exact hne _ e.symm)]; exact e
  obtain ⟨v0, hv0, _⟩ := h.at hl
  have hgi := (List.getElem?_eq_some_iff.1 hv0).1
  have hli := (List.getElem?_eq_some_iff.1 hl).1
  refine ⟨hc, ne h.gs (by intro cs e; cases e), ne h.gt (by intro cs e; cases e), fun j s b h1 h2 => ?_, by rw [List.length_set]; exact h.gl, h.sl, fun j l1 v h1 h2 => ?_, h.nd, fun j k g a b h1 h2 => ?_, h.Sp, fun j hj => Nat.lt_of_lt_of_le (h.lt j hj) hn, h.ok.land ⟨by rw [he]; exact Nat.zero_le _, by rw [he]; simp, by rw [hf]; exact Nat.zero_le _, by rw [he]; simp, fun _ => he⟩⟩
  · obtain ⟨q1, q2⟩ := h.sb j s b h1 h2
    exact ⟨ne q1 (by intro cs e; cases e), q2⟩
  · by_cases hj : j = i
    · subst hj
      rw [List.getElem?_set_self hli] at h1
      rw [List.getElem?_set_self hgi] at h2
      injection h1 with h1
      injection h2 with h2
      subst h1 h2
      exact .inl ⟨rfl, he⟩
    · rw [List.getElem?_set_ne (Ne.symm hj)] at h1 h2
      rcases h.ln j l1 v h1 h2 with q | ⟨g, q1, q2, q3⟩
      · exact .inl q
      · exact .inr ⟨g, q1, ne q2 (by intro cs e; cases e), q3⟩
  · have key : ∀ {j g a : Nat}, (N.gl.set i nilV)[j]? = some (.rw g 1 0 a) → N.gl[j]? = some (.rw g 1 0 a) := fun {j g a} hj => by
      by_cases e : j = i
      · subst e
        rw [List.getElem?_set_self hgi] at hj
        injection hj with hj
        cases hj
      · rwa [List.getElem?_set_ne (Ne.symm e)] at hj
    exact h.gd j k g a b (key h1) (key h2)
theorem make_c (h : PoolH H n S p N d) {i : Nat} {l : LandD} (hl : d.lands[i]? = some l) (hf : l.there = false) (hb : ∀ (j : Nat) (l : LandD), j < i → d.lands[j]? = some l → l.there = true) (hg : l.gen ≤ 1000000000) :
    HCalls Try.prog 39 [.ptr p 0] H n (PoolP H n S p (d.made i l) (.tup [.lit (.int .i64 (i : Int)), .lit (.int .i64 0)])) := by
  refine hcallsC_of (rs := [.tmp 2, .tmp 3]) ⟨[0, 2, 3, 4, 5, 7, 8, 9, 20], [], [], [], []⟩ TOk mixed Try.func39 rfl rfl (by kernel_rfl) (by kernel_rfl) rfl ?_
  have pl := h.pl
  obtain ⟨v, hv, hlv, hi, hd⟩ := h.at hl
  simp only [push_cast, Nat.reduceBEq, Nat.reduceAdd, Nat.reduceEqDiff, reduceCtorEq, Nat.reduceLeDiff, Nat.reduceSub, Nat.reduceMul, Nat.reduceLT, Int.reduceEq, Int.reduceLT, Int.reduceLE, Int.reduceBEq, Int.reduceBNe, Int.reduceToNat, Int.reduceNeg, Int.reduceSub, Int.reduceAdd]
  refine loopK (fun q s => ∃ (k : Nat), k ≤ i ∧ q = i - k ∧ s = ⟨[(0, .ptr p 0), (8, .lit (.int .i64 (k : Int)))], H, n⟩) _ [0, 8] ⟨0, by omega, rfl, rfl⟩ ?_
  rintro q _ ⟨k, hk, rfl, rfl⟩
  have h3 : (k : Int) < 256 := by omega
  have hwk := wrap_nat0 (k := k) (by omega)
  obtain ⟨lk, hlk⟩ : ∃ lk, d.lands[k]? = some lk := ⟨_, List.getElem?_eq_getElem (by rw [h.ok.ll]; omega)⟩
  obtain ⟨vk, hvk, hlvk, _, hdk⟩ := h.at hlk
  have hdr := (drop3 (AV.lit (.int .i64 (d.size : Int))) (.rw N.gs 1 0 d.slabs.length) (.rw N.gt 1 0 d.slabs.length) (landsC d.lands N.gl) k).trans hdk
  by_cases hki : k < i
  · have ht := hb k lk hki hlk
    simp only [push_cast, Nat.reduceBEq, Nat.reduceAdd, Nat.reduceEqDiff, reduceCtorEq, Nat.reduceLeDiff, Nat.reduceSub, Nat.reduceMul, Nat.reduceLT, Int.reduceEq, Int.reduceLT, Int.reduceLE, Int.reduceBEq, Int.reduceBNe, Int.reduceToNat, Int.reduceNeg, Int.reduceSub, Int.reduceAdd, h3, pl, hdr, ht, hwk]
    exact ⟨_, by omega, k + 1, by omega, rfl, rfl⟩
  · obtain rfl : k = i := by omega
    rw [hl] at hlk
    injection hlk with hlk
    subst hlk
    have hgw : IntKind.i64.wrap ((l.gen : Int) + 1) = (l.gen : Int) + 1 := IntWalk.i64_in _ (by omega)
    obtain ⟨r0, r1, r2, r3⟩ := drops (AV.lit (.int .i64 (d.size : Int))) (.rw N.gs 1 0 d.slabs.length) (.rw N.gt 1 0 d.slabs.length) hd
    have hlen : 3 + k * 4 + 1 ≤ (landsC d.lands N.gl).length := by rw [landsC_len (h.ok.ll.trans h.gl.symm), h.ok.ll]; omega
    have hst := stores (l' := ⟨true, l.gen + 1, [], 0⟩) (v' := nilV) (AV.lit (.int .i64 (d.size : Int))) (.rw N.gs 1 0 d.slabs.length) (.rw N.gt 1 0 d.slabs.length) hl hv (a := .lit (.bool true)) (g := .lit (.int .i64 ((l.gen : Int) + 1))) (f := .lit (.int .i64 0)) rfl
    unfold nilV at hst
    simp only [push_cast, Nat.reduceBEq, Nat.reduceAdd, Nat.reduceEqDiff, reduceCtorEq, Nat.reduceLeDiff, Nat.reduceSub, Nat.reduceMul, Nat.reduceLT, Int.reduceEq, Int.reduceLT, Int.reduceLE, Int.reduceBEq, Int.reduceBNe, Int.reduceToNat, Int.reduceNeg, Int.reduceSub, Int.reduceAdd, h3, pl, r0, r1, hf, hgw, hlen, hst]
    exact poolP_same (Nat.le_refl _) ⟨_, h.empty hl rfl rfl (Nat.le_refl _) (upd_same _ _ _) fun j hj => upd_other (Ne.symm hj)⟩ fun j hj hs => upd_other fun e => hs (e ▸ h.Sp.1)
theorem make_full (h : PoolH H n S p N d) (hb : ∀ l ∈ d.lands, l.there = true) :
    HCalls Try.prog 39 [.ptr p 0] H n fun r H' n' => r = .tup [.lit (.int .i64 0), .lit (.int .i64 5)] ∧ H' = H ∧ n' = n := by
  refine hcallsC_of (rs := [.tmp 2, .tmp 3]) ⟨[0, 2, 3, 4, 5, 7, 8, 9, 20], [], [], [], []⟩ TOk mixed Try.func39 rfl rfl (by kernel_rfl) (by kernel_rfl) rfl ?_
  have pl := h.pl
  simp only [push_cast, Nat.reduceBEq, Nat.reduceAdd, Nat.reduceEqDiff, reduceCtorEq, Nat.reduceLeDiff, Nat.reduceSub, Nat.reduceMul, Nat.reduceLT, Int.reduceEq, Int.reduceLT, Int.reduceLE, Int.reduceBEq, Int.reduceBNe, Int.reduceToNat, Int.reduceNeg, Int.reduceSub, Int.reduceAdd]
  refine loopK (fun q s => ∃ (k : Nat), k ≤ 256 ∧ q = 256 - k ∧ s = ⟨[(0, .ptr p 0), (8, .lit (.int .i64 (k : Int)))], H, n⟩) _ [0, 8] ⟨0, by omega, rfl, rfl⟩ ?_
  rintro q _ ⟨k, hk, rfl, rfl⟩
  by_cases h3 : (k : Int) < 256
  · have hwk := wrap_nat0 (k := k) (by omega)
    obtain ⟨lk, hlk⟩ : ∃ lk, d.lands[k]? = some lk := ⟨_, List.getElem?_eq_getElem (by rw [h.ok.ll]; omega)⟩
    obtain ⟨vk, hvk, hlvk, _, hdk⟩ := h.at hlk
    obtain ⟨r0, r1, r2, r3⟩ := drops (AV.lit (.int .i64 (d.size : Int))) (.rw N.gs 1 0 d.slabs.length) (.rw N.gt 1 0 d.slabs.length) hdk
    have ht := hb lk (List.mem_of_getElem? hlk)
    simp only [push_cast, Nat.reduceBEq, Nat.reduceAdd, Nat.reduceEqDiff, reduceCtorEq, Nat.reduceLeDiff, Nat.reduceSub, Nat.reduceMul, Nat.reduceLT, Int.reduceEq, Int.reduceLT, Int.reduceLE, Int.reduceBEq, Int.reduceBNe, Int.reduceToNat, Int.reduceNeg, Int.reduceSub, Int.reduceAdd, h3, pl, r0, ht, hwk]
    exact ⟨_, by omega, k + 1, by omega, rfl, rfl⟩
  · simp only [push_cast, Nat.reduceBEq, Nat.reduceAdd, Nat.reduceEqDiff, reduceCtorEq, Nat.reduceLeDiff, Nat.reduceSub, Nat.reduceMul, Nat.reduceLT, Int.reduceEq, Int.reduceLT, Int.reduceLE, Int.reduceBEq, Int.reduceBNe, Int.reduceToNat, Int.reduceNeg, Int.reduceSub, Int.reduceAdd, h3]
end
end Go.Proofs.Ytndojmpgadbefaa
