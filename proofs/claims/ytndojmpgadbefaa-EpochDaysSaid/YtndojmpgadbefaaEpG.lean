/- Pools: the least idle slab, growing a region, how many are idle; by the walk over a heap. -/
import Derived.Test.YtndojmpgadbefaaEpL
set_option linter.unusedVariables false
set_option linter.unusedSimpArgs false
namespace Go.Proofs.Ytndojmpgadbefaa
open Go Go.RowKit Hv
set_option maxRecDepth 20000
set_option maxHeartbeats 4000000
/-- A mark: the walk's simp stops ahead of this code. -/
def stopC (c : Code) : Code := c
theorem stopC_eq (c : Code) : stopC c = c := rfl
def stopK (K : AS → Prop) (s : AS) : Prop := K s
theorem stopK_eq (K : AS → Prop) : stopK K = K := rfl
section
variable {H H' : Hp} {n n' p : Nat} {S : Nat → Prop} {d : PoolD} {N : PoolN}
theorem index_yes {g : Nat} {l : List Bool} (hg : H g = some (.row true 4 (l.map boolI))) {K : Nat} (hK : l.length = K) (hlen : K ≤ 1000000) {i : Nat} (hi : l[i]? = some false) (hb : ∀ j, j < i → l[j]? = some true) :
    HCalls Try.prog 66 [.rw g 1 0 K, .lit (.bool false)] H n fun r H' n' => r = .lit (.int .i64 (i : Int)) ∧ H' = H ∧ n' = n := by
  subst hK
  refine hcallsC_of (rs := [.tmp 4]) ⟨[0, 1, 4, 5, 7, 8, 9, 16], [], [], [], []⟩ TOk mixed Try.func66 rfl rfl (by kernel_rfl) (by kernel_rfl) rfl ?_
  have hil := (List.getElem?_eq_some_iff.1 hi).1
  have hbl : Nat.ble l.length (l.map boolI).length = true := by rw [Nat.ble_eq, List.length_map]; exact Nat.le_refl _
  simp only [push_cast, Nat.reduceBEq, Nat.reduceAdd, Nat.reduceEqDiff, reduceCtorEq, Nat.reduceLeDiff, Nat.reduceSub, Nat.reduceMul, Nat.reduceLT, Int.reduceEq, Int.reduceLT, Int.reduceLE, Int.reduceBEq, Int.reduceBNe, Int.reduceToNat, Int.reduceNeg, Int.reduceSub, Int.reduceAdd]
  refine loopK (fun q s => ∃ (k : Nat), k ≤ i ∧ q = i - k ∧ s = ⟨[(0, .rw g 1 0 l.length), (1, .lit (.bool false)), (7, .lit (.int .i64 (l.length : Int))), (8, .lit (.int .i64 (k : Int)))], H, n⟩) _ [0, 1, 7, 8] ⟨0, by omega, rfl, rfl⟩ ?_
  rintro q _ ⟨k, hk, rfl, rfl⟩
  have h3 : (k : Int) < (l.length : Int) := by omega
  have hwk := wrap_nat0 (k := k) (by omega)
  by_cases hki : k < i
  · have hkv := hb k hki
    simp only [push_cast, Nat.reduceBEq, Nat.reduceAdd, Nat.reduceEqDiff, reduceCtorEq, Nat.reduceLeDiff, Nat.reduceSub, Nat.reduceMul, Nat.reduceLT, Int.reduceEq, Int.reduceLT, Int.reduceLE, Int.reduceBEq, Int.reduceBNe, Int.reduceToNat, Int.reduceNeg, Int.reduceSub, Int.reduceAdd, h3, hg, hkv, hwk, boolI, hbl]
    exact ⟨_, by omega, k + 1, by omega, rfl, rfl⟩
  · obtain rfl : k = i := by omega
    simp only [push_cast, Nat.reduceBEq, Nat.reduceAdd, Nat.reduceEqDiff, reduceCtorEq, Nat.reduceLeDiff, Nat.reduceSub, Nat.reduceMul, Nat.reduceLT, Int.reduceEq, Int.reduceLT, Int.reduceLE, Int.reduceBEq, Int.reduceBNe, Int.reduceToNat, Int.reduceNeg, Int.reduceSub, Int.reduceAdd, h3, hg, hi, boolI, hbl]
theorem index_no {g : Nat} {l : List Bool} (hg : H g = some (.row true 4 (l.map boolI))) {K : Nat} (hK : l.length = K) (hlen : K ≤ 1000000) (hb : ∀ x ∈ l, x = true) :
    HCalls Try.prog 66 [.rw g 1 0 K, .lit (.bool false)] H n fun r H' n' => r = .lit (.int .i64 (-1)) ∧ H' = H ∧ n' = n := by
  subst hK
  refine hcallsC_of (rs := [.tmp 4]) ⟨[0, 1, 4, 5, 7, 8, 9, 16], [], [], [], []⟩ TOk mixed Try.func66 rfl rfl (by kernel_rfl) (by kernel_rfl) rfl ?_
  have hbl : Nat.ble l.length (l.map boolI).length = true := by rw [Nat.ble_eq, List.length_map]; exact Nat.le_refl _
  simp only [push_cast, Nat.reduceBEq, Nat.reduceAdd, Nat.reduceEqDiff, reduceCtorEq, Nat.reduceLeDiff, Nat.reduceSub, Nat.reduceMul, Nat.reduceLT, Int.reduceEq, Int.reduceLT, Int.reduceLE, Int.reduceBEq, Int.reduceBNe, Int.reduceToNat, Int.reduceNeg, Int.reduceSub, Int.reduceAdd]
  refine loopK (fun q s => ∃ (k : Nat), k ≤ l.length ∧ q = l.length - k ∧ s = ⟨[(0, .rw g 1 0 l.length), (1, .lit (.bool false)), (7, .lit (.int .i64 (l.length : Int))), (8, .lit (.int .i64 (k : Int)))], H, n⟩) _ [0, 1, 7, 8] ⟨0, by omega, rfl, rfl⟩ ?_
  rintro q _ ⟨k, hk, rfl, rfl⟩
  by_cases h3 : k < l.length
  · have h3' : (k : Int) < (l.length : Int) := by omega
    have hwk := wrap_nat0 (k := k) (by omega)
    obtain ⟨x, hx⟩ : ∃ x, l[k]? = some x := ⟨_, List.getElem?_eq_getElem h3⟩
    obtain rfl := hb x (List.mem_of_getElem? hx)
    simp only [push_cast, Nat.reduceBEq, Nat.reduceAdd, Nat.reduceEqDiff, reduceCtorEq, Nat.reduceLeDiff, Nat.reduceSub, Nat.reduceMul, Nat.reduceLT, Int.reduceEq, Int.reduceLT, Int.reduceLE, Int.reduceBEq, Int.reduceBNe, Int.reduceToNat, Int.reduceNeg, Int.reduceSub, Int.reduceAdd, h3, h3', hg, hx, hwk, boolI, hbl]
    exact ⟨_, by omega, k + 1, by omega, rfl, rfl⟩
  · simp only [push_cast, Nat.reduceBEq, Nat.reduceAdd, Nat.reduceEqDiff, reduceCtorEq, Nat.reduceLeDiff, Nat.reduceSub, Nat.reduceMul, Nat.reduceLT, Int.reduceEq, Int.reduceLT, Int.reduceLE, Int.reduceBEq, Int.reduceBNe, Int.reduceToNat, Int.reduceNeg, Int.reduceSub, Int.reduceAdd, h3]
def idleN (l : List Bool) : Nat := (l.filter fun b => !b).length
theorem idle_h (h : PoolH H n S p N d) : HCalls Try.prog 37 [.ptr p 0] H n fun r H' n' => r = .lit (.int .i64 (idleN d.taken : Int)) ∧ H' = H ∧ n' = n := by
  refine hcallsC_of (rs := [.tmp 2]) ⟨[0, 2, 3, 5, 7, 11, 12, 13, 14, 18], [], [], [], []⟩ TOk mixed Try.func37 rfl rfl (by kernel_rfl) (by kernel_rfl) rfl ?_
  have pl := h.pl
  have hg := h.gt
  have hk4 := h.ok.k
  have htl := h.ok.tl
  have hbl : Nat.ble d.slabs.length (d.taken.map boolI).length = true := by rw [Nat.ble_eq, List.length_map, htl]; exact Nat.le_refl _
  have hbl2 : Nat.ble d.slabs.length d.taken.length = true := by rw [Nat.ble_eq, htl]; exact Nat.le_refl _
  simp only [push_cast, Nat.reduceBEq, Nat.reduceAdd, Nat.reduceEqDiff, reduceCtorEq, Nat.reduceLeDiff, Nat.reduceSub, Nat.reduceMul, Nat.reduceLT, Int.reduceEq, Int.reduceLT, Int.reduceLE, Int.reduceBEq, Int.reduceBNe, Int.reduceToNat, Int.reduceNeg, Int.reduceSub, Int.reduceAdd, pl, hg, hbl, hbl2]
  refine loopK (fun q s => ∃ (k : Nat), k ≤ d.taken.length ∧ q = d.taken.length - k ∧ s = ⟨[(0, .ptr p 0), (3, .lit (.int .i64 (idleN (d.taken.take k) : Int))), (11, .rw N.gt 1 0 d.slabs.length), (12, .lit (.int .i64 (d.slabs.length : Int))), (13, .lit (.int .i64 (k : Int)))], H, n⟩) _ [0, 3, 11, 12, 13] ⟨0, by omega, rfl, rfl⟩ ?_
  rintro q _ ⟨k, hk, rfl, rfl⟩
  by_cases h3 : k < d.taken.length
  · have h3' : (k : Int) < (d.slabs.length : Int) := by omega
    have hwk := wrap_nat0 (k := k) (by omega)
    obtain ⟨x, hx⟩ : ∃ x, d.taken[k]? = some x := ⟨_, List.getElem?_eq_getElem h3⟩
    have hle : idleN (d.taken.take k) ≤ k := Nat.le_trans (List.length_filter_le _ _) (List.length_take_le _ _)
    have hwi := wrap_nat0 (k := idleN (d.taken.take k)) (by omega)
    have hst : d.taken.take (k + 1) = d.taken.take k ++ [x] := by rw [List.take_add_one, hx]; rfl
    cases x with
    | true =>
      have hs : idleN (d.taken.take (k + 1)) = idleN (d.taken.take k) := by rw [hst]; unfold idleN; rw [List.filter_append]; simp
      simp only [push_cast, Nat.reduceBEq, Nat.reduceAdd, Nat.reduceEqDiff, reduceCtorEq, Nat.reduceLeDiff, Nat.reduceSub, Nat.reduceMul, Nat.reduceLT, Int.reduceEq, Int.reduceLT, Int.reduceLE, Int.reduceBEq, Int.reduceBNe, Int.reduceToNat, Int.reduceNeg, Int.reduceSub, Int.reduceAdd, h3', hg, hx, hwk, boolI, hbl, hbl2]
      exact ⟨_, by omega, k + 1, by omega, rfl, by rw [hs]; rfl⟩
    | false =>
      have hs : idleN (d.taken.take (k + 1)) = idleN (d.taken.take k) + 1 := by rw [hst]; unfold idleN; rw [List.filter_append]; simp
      simp only [push_cast, Nat.reduceBEq, Nat.reduceAdd, Nat.reduceEqDiff, reduceCtorEq, Nat.reduceLeDiff, Nat.reduceSub, Nat.reduceMul, Nat.reduceLT, Int.reduceEq, Int.reduceLT, Int.reduceLE, Int.reduceBEq, Int.reduceBNe, Int.reduceToNat, Int.reduceNeg, Int.reduceSub, Int.reduceAdd, h3', hg, hx, hwk, hwi, boolI, hbl, hbl2]
      exact ⟨_, by omega, k + 1, by omega, rfl, by rw [hs]; rfl⟩
  · have hkk : d.taken.take k = d.taken := List.take_of_length_le (by omega)
    simp only [push_cast, Nat.reduceBEq, Nat.reduceAdd, Nat.reduceEqDiff, reduceCtorEq, Nat.reduceLeDiff, Nat.reduceSub, Nat.reduceMul, Nat.reduceLT, Int.reduceEq, Int.reduceLT, Int.reduceLE, Int.reduceBEq, Int.reduceBNe, Int.reduceToNat, Int.reduceNeg, Int.reduceSub, Int.reduceAdd, show ¬ (k : Int) < (d.slabs.length : Int) by omega, hkk]
/-- A region has one slab more. -/
def PoolD.grown (d : PoolD) (i : Nat) (l : LandD) (s : Nat) : PoolD := ⟨d.size, d.slabs.set s (List.replicate d.size 0), d.taken.set s true, d.lands.set i ⟨l.there, l.gen, l.slabs ++ [s], l.slabs.length * d.size⟩⟩
theorem splice_all {α : Type} {b : List UInt8} {f : α → List AV} {m : Nat} (z : List AV) (hb : b.length = m) : spliceL (b.map byteA) 0 (List.replicate m z) = List.replicate m z := by
  unfold spliceL
  rw [List.take_zero, List.nil_append, List.drop_of_length_le (by simp [hb]), List.append_nil]
/-- A slab is taken, and empty. -/
theorem PoolH.took (h : PoolH H n S p N d) {s sb : Nat} (hs : s < d.slabs.length) (hsb : N.sb[s]? = some sb) {c : List UInt8} {b : Bool} (hc : c.length = d.size)
    (h1 : H' N.gt = some (.row true 4 ((d.taken.set s b).map boolI))) (h2 : H' sb = some (.row true 5 (c.map byteA))) (hh : ∀ j, j ≠ N.gt → j ≠ sb → H' j = H j) :
    PoolH H' n S p N ⟨d.size, d.slabs.set s c, d.taken.set s b, d.lands⟩ := by
  obtain ⟨bs, hbs⟩ : ∃ b, d.slabs[s]? = some b := ⟨_, List.getElem?_eq_getElem hs⟩
  obtain ⟨hsr, hsS⟩ := h.sb s sb bs hsb hbs
  obtain ⟨n1, n2, n3⟩ := h.nes
  obtain ⟨m1, m2, m3⟩ := h.nesB hsr
  refine ⟨by rw [hh p (Ne.symm n1) (Ne.symm m1)]; show _ = some (AO.cells (_ :: AV.rw _ 1 0 (d.slabs.set s c).length :: AV.rw _ 1 0 (d.slabs.set s c).length :: _)); rw [List.length_set]; exact h.pl, (hh _ (Ne.symm n2) (Ne.symm m2)).trans h.gs, h1, fun j t x q1 q2 => ?_, h.gl, by show _ = (d.slabs.set s c).length; rw [List.length_set]; exact h.sl, fun i l v q1 q2 => ?_, h.nd, h.gd, h.Sp, h.lt, ⟨h.ok.sz, by show (d.slabs.set s c).length ≤ _; rw [List.length_set]; exact h.ok.k, fun x hx => ?_, h.ok.ll, by show (d.taken.set s b).length = (d.slabs.set s c).length; rw [List.length_set, List.length_set]; exact h.ok.tl, fun l hl => by
    have := h.ok.ls l hl
    show _ ∧ (∀ t ∈ l.slabs, t < (d.slabs.set s c).length) ∧ _
    rw [List.length_set]; exact this⟩⟩
  · by_cases hj : j = s
    · subst hj
      rw [hsb] at q1
      injection q1 with q1
      subst q1
      rw [show (d.slabs.set j c)[j]? = some c from List.getElem?_set_self hs] at q2
      injection q2 with q2
      subst q2
      exact ⟨h2, hsS⟩
    · rw [show (d.slabs.set s c)[j]? = d.slabs[j]? from List.getElem?_set_ne (Ne.symm hj)] at q2
      obtain ⟨e1, e2⟩ := h.sb j t x q1 q2
      refine ⟨(hh t (fun e => (h.nesB e1).2.2 e) (fun e => hj ?_)).trans e1, e2⟩
      exact (List.getElem?_inj (List.getElem?_eq_some_iff.1 q1).1 h.nd).1 (q1.trans ((congrArg some e).trans hsb.symm))
  · rcases h.ln i l v q1 q2 with q | ⟨g, e1, e2, e3⟩
    · exact .inl q
    · exact .inr ⟨g, e1, (hh g (fun e => (h.nesG e2).2.2 e) (heap_ne e2 hsr (by intro e; cases e))).trans e2, e3⟩
  · rcases List.mem_or_eq_of_mem_set hx with hx | rfl
    · exact h.ok.bs x hx
    · exact hc
/-- A region's slabs are one more. -/
theorem PoolH.grew (h : PoolH H n S p N d) {i s m f : Nat} {l : LandD} {v : AV} (hl : d.lands[i]? = some l) (hv : N.gl[i]? = some v) (ht : l.there = true) (hll : l.slabs.length < 4096) (hs : s < d.slabs.length) (hm : n ≤ m) (hn : m < n') (hf : f = l.slabs.length * d.size)
    (hc : H' p = some (.cells (.lit (.int .i64 (d.size : Int)) :: .rw N.gs 1 0 d.slabs.length :: .rw N.gt 1 0 d.slabs.length :: landsC (d.lands.set i ⟨l.there, l.gen, l.slabs ++ [s], f⟩) (N.gl.set i (.rw m 1 0 (l.slabs.length + 1))))))
    (hg : H' m = some (.row false 3 ((l.slabs ++ [s]).map natI))) (hh : ∀ j, j < n → j ≠ p → (∀ g, v = .rw g 1 0 l.slabs.length → j ≠ g) → H' j = H j) :
    PoolH H' n' (fun j => S j ∨ j = m) p ⟨N.gs, N.gt, N.sb, N.gl.set i (.rw m 1 0 (l.slabs.length + 1))⟩ ⟨d.size, d.slabs, d.taken, d.lands.set i ⟨l.there, l.gen, l.slabs ++ [s], f⟩⟩ := by
  have hp := h.pl
  have hgi := (List.getElem?_eq_some_iff.1 hv).1
  have hli := (List.getElem?_eq_some_iff.1 hl).1
  have hlv := h.ln i l v hl hv
  have vg : ∀ g, v = .rw g 1 0 l.slabs.length → H g = some (.row false 3 (l.slabs.map natI)) := fun g e => by
    rcases hlv with ⟨q, _⟩ | ⟨g', q1, q2, _⟩
    · rw [q] at e; cases e
    · rw [q1] at e
      injection e with e
      rw [← e]; exact q2
  have ne : ∀ {j o}, S j → H j = some o → (∀ cs, o ≠ .cells cs) → (∀ l, o ≠ .row false 3 l) → H' j = some o := fun {j o} hj e q1 q2 => by
    rw [hh j (h.lt j hj) (fun e' => by rw [e', hp] at e; injection e with e; exact q1 _ e.symm) (fun g hg e' => by rw [e', vg g hg] at e; injection e with e; exact q2 _ e.symm)]; exact e
  refine ⟨hc, ne h.Sp.2.1 h.gs (by intro cs e; cases e) (by intro cs e; cases e), ne h.Sp.2.2 h.gt (by intro cs e; cases e) (by intro cs e; cases e), fun j s b h1 h2 => ?_, by show (N.gl.set i _).length = _; rw [List.length_set]; exact h.gl, h.sl, fun j l1 v1 h1 h2 => ?_, h.nd, fun j k g a b h1 h2 => ?_, ⟨.inl h.Sp.1, .inl h.Sp.2.1, .inl h.Sp.2.2⟩, fun j hj => ?_, h.ok.land ?_⟩
  · obtain ⟨q1, q2⟩ := h.sb j s b h1 h2
    exact ⟨ne q2 q1 (by intro cs e; cases e) (by intro cs e; cases e), .inl q2⟩
  · by_cases hj : j = i
    · subst hj
      rw [List.getElem?_set_self hli] at h1
      rw [List.getElem?_set_self hgi] at h2
      injection h1 with h1
      injection h2 with h2
      subst h1 h2
      exact .inr ⟨m, by rw [List.length_append]; rfl, hg, .inr rfl, by simp⟩
    · rw [List.getElem?_set_ne (Ne.symm hj)] at h1 h2
      rcases h.ln j l1 v1 h1 h2 with q | ⟨g, q1, q2, q3⟩
      · exact .inl q
      · refine .inr ⟨g, q1, ?_, .inl q3.1, q3.2⟩
        rw [hh g (h.lt g q3.1) (fun e => by rw [e, hp] at q2; cases q2) (fun g' hg' e => hj ?_)]
        · exact q2
        · subst e
          rw [q1] at h2
          rw [hg'] at hv
          exact h.gd j i g _ _ h2 hv
  · have key : ∀ {j g a : Nat}, (N.gl.set i (.rw m 1 0 (l.slabs.length + 1)))[j]? = some (.rw g 1 0 a) → (j = i ∧ g = m) ∨ (j ≠ i ∧ N.gl[j]? = some (.rw g 1 0 a) ∧ g < n) := fun {j g a} hj => by
      by_cases e : j = i
      · subst e
        rw [List.getElem?_set_self hgi] at hj
        injection hj with hj
        injection hj with hj
        exact .inl ⟨rfl, hj.symm⟩
      · rw [List.getElem?_set_ne (Ne.symm e)] at hj
        obtain ⟨lj, hlj⟩ : ∃ lj, d.lands[j]? = some lj := ⟨_, List.getElem?_eq_getElem (by have := (List.getElem?_eq_some_iff.1 hj).1; rw [h.gl] at this; rw [h.ok.ll]; exact this)⟩
        refine .inr ⟨e, hj, ?_⟩
        rcases h.ln j lj _ hlj hj with ⟨q, _⟩ | ⟨g', q1, _, q3⟩
        · cases q
        · injection q1 with q1
          rw [q1]; exact h.lt _ q3.1
    rcases key h1 with ⟨a1, a2⟩ | ⟨a1, a2, a3⟩ <;> rcases key h2 with ⟨b1, b2⟩ | ⟨b1, b2, b3⟩
    · rw [a1, b1]
    · omega
    · omega
    · exact h.gd j k g a b a2 b2
  · rcases hj with hj | rfl
    · have := h.lt j hj; omega
    · exact hn
  · have hm := h.ok.ls l (List.mem_of_getElem? hl)
    have e : (l.slabs ++ [s]).length = l.slabs.length + 1 := by simp
    refine ⟨by rw [e]; omega, fun t ht => ?_, ?_, ?_, fun hf => ?_⟩
    · rcases List.mem_append.1 ht with ht | ht
      · exact hm.2.1 t ht
      · rw [List.mem_singleton.1 ht]; exact hs
    · rw [e, hf, Nat.add_mul]; exact Nat.le_add_right _ _
    · rw [e, hf]; exact Nat.le_refl _
    · rw [show l.there = false from hf] at ht; cases ht
theorem grow_h (h : PoolH H n S p N d) {i s : Nat} {l : LandD} (hl : d.lands[i]? = some l) (ht : l.there = true) (hll : l.slabs.length < 4096) (hs : d.taken[s]? = some false) (hb : ∀ j, j < s → d.taken[j]? = some true) :
    HCalls Try.prog 57 [.ptr p 0, .ptr p (3 + i * 4)] H n (PoolP H n S p (d.grown i l s) (.lit (.bool true))) := by
  refine hcallsC_of (rs := [.tmp 4]) ⟨[0, 1, 4, 5, 12], [], [], [(6, [(0, [], []), (1, [], []), (2, [], []), (3, [], []), (4, [], []), (5, [], []), (6, [], []), (7, [], []), (8, [], []), (9, [], []), (10, [], []), (11, [], []), (12, [], []), (13, [], [12, 10, 0, 1, 2, 3, 4, 5, 6, 7, 8, 9, 11])])], []⟩ TOk mixed Try.func57 rfl rfl (by kernel_rfl) (by kernel_rfl) rfl ?_
  have pl := h.pl
  have hg := h.gt
  have hgs := h.gs
  have hk4 := h.ok.k
  have htl := h.ok.tl
  have hsz := h.ok.sz
  have hsl := h.sl
  have hsk : s < d.slabs.length := by rw [← htl]; exact (List.getElem?_eq_some_iff.1 hs).1
  obtain ⟨v, hv, hlv, hi, hd⟩ := h.at hl
  obtain ⟨r0, r1, r2, r3⟩ := drops (AV.lit (.int .i64 (d.size : Int))) (.rw N.gs 1 0 d.slabs.length) (.rw N.gt 1 0 d.slabs.length) hd
  obtain ⟨bs, hbs⟩ : ∃ b, d.slabs[s]? = some b := ⟨_, List.getElem?_eq_getElem hsk⟩
  obtain ⟨sb, hsb⟩ : ∃ b, N.sb[s]? = some b := ⟨_, List.getElem?_eq_getElem (by rw [hsl]; exact hsk)⟩
  obtain ⟨hsr, hsS⟩ := h.sb s sb bs hsb hbs
  have hbl2 : Nat.ble d.slabs.length N.sb.length = true := by rw [Nat.ble_eq, hsl]; exact Nat.le_refl _
  have hsk' : (s : Int) < (d.slabs.length : Int) := by omega
  have hbl3 : Nat.ble d.slabs.length d.taken.length = true := by rw [Nat.ble_eq, htl]; exact Nat.le_refl _
  simp only [push_cast, Nat.reduceBEq, Nat.reduceAdd, Nat.reduceEqDiff, reduceCtorEq, Nat.reduceLeDiff, Nat.reduceSub, Nat.reduceMul, Nat.reduceLT, Int.reduceEq, Int.reduceLT, Int.reduceLE, Int.reduceBEq, Int.reduceBNe, Int.reduceToNat, Int.reduceNeg, Int.reduceSub, Int.reduceAdd, pl]
  refine callH (index_yes hg htl (by omega) hs hb) ?_
  rintro _ H n ⟨rfl, rfl, rfl⟩
  have hs0 : ¬ (s : Int) < 0 := by omega
  rw [← stopC_eq (Code.seq (Code.region 6 _ _) _)]
  obtain ⟨n1, n2, n3⟩ := h.nes
  obtain ⟨m1, m2, m3⟩ := h.nesB hsr
  have b1 := nb n1
  have b2 := nb n2
  have b3 := nb m1
  have b4 := nb m2
  have b5 := nb m3
  have b6 := nb (Ne.symm m3)
  have hbl := h.ok.bs bs (List.mem_of_getElem? hbs)
  have hall : ∀ it ∈ bs.map byteA, it.length = 1 := fun it hit => by obtain ⟨x, _, rfl⟩ := List.mem_map.1 hit; rfl
  have hallT : (∀ it ∈ bs.map byteA, it.length = 1) = True := eq_true hall
  have htk : List.take d.slabs.length (N.sb.map (slabI d.size)) = N.sb.map (slabI d.size) := List.take_of_length_le (by rw [List.length_map, hsl]; exact Nat.le_refl _)
  simp only [push_cast, Nat.reduceBEq, Nat.reduceAdd, Nat.reduceEqDiff, reduceCtorEq, Nat.reduceLeDiff, Nat.reduceSub, Nat.reduceMul, Nat.reduceLT, Int.reduceEq, Int.reduceLT, Int.reduceLE, Int.reduceBEq, Int.reduceBNe, Int.reduceToNat, Int.reduceNeg, Int.reduceSub, Int.reduceAdd, pl, hg, hs, hgs, hsb, hs0, hsk', boolI, slabI, hbl2, hbl3, b1, b2, b3, b4, b5, b6, hsr, hbl, hallT, htk]
  have eT : (d.taken.map boolI).set s [.lit (.bool true)] = (d.taken.set s true).map boolI := by rw [List.map_set]; rfl
  have eB : spliceL (bs.map byteA) 0 (List.replicate d.size [.lit (.int .u8 0)]) = (List.replicate d.size (0 : UInt8)).map byteA := by
    rw [splice_all (α := Nat) (f := natI) _ hbl, List.map_replicate]; rfl
  rw [eT, eB]
  have h1 := h.took (H' := upd (upd H N.gt (some (.row true 4 ((d.taken.set s true).map boolI)))) sb (some (.row true 5 ((List.replicate d.size (0 : UInt8)).map byteA)))) (b := true) (c := List.replicate d.size 0) hsk hsb (by simp) (by rw [upd_other m3, upd_same]) (upd_same _ _ _) (fun j q1 q2 => by rw [upd_other (Ne.symm q2), upd_other (Ne.symm q1)])
  have k1 : ∀ j, ¬ S j → (upd (upd H N.gt (some (.row true 4 ((d.taken.set s true).map boolI)))) sb (some (.row true 5 ((List.replicate d.size (0 : UInt8)).map byteA)))) j = H j := fun j hj => by
    rw [upd_other (i := sb) (j := j) (fun e => hj (e ▸ hsS)), upd_other (i := N.gt) (j := j) (fun e => hj (e ▸ h.Sp.2.2))]
  generalize (upd (upd H N.gt (some (.row true 4 ((d.taken.set s true).map boolI)))) sb (some (.row true 5 ((List.replicate d.size (0 : UInt8)).map byteA)))) = H1 at h1 k1 ⊢
  rw [stopC_eq]
  have pl1 := h1.pl
  obtain ⟨v1, hv1, hlv1, _, hd1⟩ := h1.at hl
  rw [hv] at hv1
  injection hv1 with hv1
  subst hv1
  simp only [List.length_set] at pl1
  obtain ⟨r0, r1, r2, r3⟩ := drops (AV.lit (.int .i64 (d.size : Int))) (.rw N.gs 1 0 d.slabs.length) (.rw N.gt 1 0 d.slabs.length) hd1
  dsimp only at r0 r1 r2 r3 pl1
  have hwm : IntKind.i64.wrap ((l.slabs.length : Int) * (d.size : Int)) = ((l.slabs.length * d.size : Nat) : Int) := by
    have hh : l.slabs.length * d.size ≤ 4096 * 65536 := Nat.mul_le_mul (by omega) hsz.2
    rw [← Int.natCast_mul]
    exact IntWalk.i64_in _ (by omega)
  have hlen : 3 + i * 4 + 1 ≤ (landsC d.lands N.gl).length := by rw [landsC_len (h.ok.ll.trans h.gl.symm), h.ok.ll]; omega
  rcases hlv1 with ⟨hv0, hl0⟩ | ⟨g, hv0, hg1, hgS, _⟩
  · subst hv0
    have hw0 : IntKind.i64.wrap (0 * (d.size : Int)) = 0 := by rw [Int.zero_mul]; rfl
    have hst := store3 (l' := ⟨l.there, l.gen, l.slabs ++ [s], 0⟩) hl hv (f := .lit (.int .i64 0)) rfl
    have hpn : p < n := h.lt p h.Sp.1
    have c4 : (n == p) = false := nb (by omega)
    have c5 : (n + 1 == p) = false := nb (by omega)
    have hl2 : (d.lands.set i ⟨l.there, l.gen, l.slabs ++ [s], 0⟩)[i]? = some ⟨l.there, l.gen, l.slabs ++ [s], 0⟩ := List.getElem?_set_self (List.getElem?_eq_some_iff.1 hl).1
    obtain ⟨t0, t1, t2, t3⟩ := drops (AV.lit (.int .i64 (d.size : Int))) (.rw N.gs 1 0 d.slabs.length) (.rw N.gt 1 0 d.slabs.length) (landsC_drop hl2 hv)
    have hlen2 : 3 + i * 4 ≤ (landsC (d.lands.set i ⟨l.there, l.gen, l.slabs ++ [s], 0⟩) N.gl).length := by rw [landsC_len (by rw [List.length_set]; exact h.ok.ll.trans h.gl.symm), List.length_set, h.ok.ll]; omega
    have hst2 := store2 (v' := .rw (n + 1) 1 0 1) (.rw N.gt 1 0 d.slabs.length) hl2 hv
    have hf0 : l.slabs.length * d.size = 0 := by rw [hl0, List.length_nil, Nat.zero_mul]
    unfold nilV at r2 hst t2 hst2
    simp only [push_cast, Nat.reduceBEq, Nat.reduceAdd, Nat.reduceEqDiff, reduceCtorEq, Nat.reduceLeDiff, Nat.reduceSub, Nat.reduceMul, Nat.reduceLT, Int.reduceEq, Int.reduceLT, Int.reduceLE, Int.reduceBEq, Int.reduceBNe, Int.reduceToNat, Int.reduceNeg, Int.reduceSub, Int.reduceAdd, pl1, r0, r1, r2, r3, hlen, hw0, hst, t1, t2, hlen2, hst2, c4, c5]
    have hg2 := h1.grew (n' := n + 1 + 1) (m := n + 1) (s := s) (f := 0) (v := nilV) (H' := upd (upd (upd (upd H1 p (some (.cells (.lit (.int .i64 (d.size : Int)) :: .rw N.gs 1 0 d.slabs.length :: .rw N.gt 1 0 d.slabs.length :: landsC (d.lands.set i ⟨l.there, l.gen, l.slabs ++ [s], 0⟩) N.gl)))) n (some (.row false 3 [[.lit (.int .i64 (s : Int))]]))) (n + 1) (some (.row false 3 [[.lit (.int .i64 (s : Int))]]))) p (some (.cells (.lit (.int .i64 (d.size : Int)) :: .rw N.gs 1 0 d.slabs.length :: .rw N.gt 1 0 d.slabs.length :: landsC (d.lands.set i ⟨l.there, l.gen, l.slabs ++ [s], 0⟩) (N.gl.set i (.rw (n + 1) 1 0 1)))))) hl hv ht hll (by show _ < (d.slabs.set s _).length; rw [List.length_set]; exact hsk) (by omega) (by omega) hf0.symm
      (by rw [upd_same]; simp only [List.length_set, hl0, List.length_nil]) (by rw [upd_other (by omega), upd_same, hl0]; rfl) (fun j hj hjp hg => by rw [upd_other (Ne.symm hjp), upd_other (by omega), upd_other (by omega), upd_other (Ne.symm hjp)])
    refine ⟨rfl, fun j => S j ∨ j = n + 1, ⟨⟨N.gs, N.gt, N.sb, N.gl.set i (.rw (n + 1) 1 0 (l.slabs.length + 1))⟩, ?_⟩, by omega, fun j hj hs' => ⟨?_, ?_⟩⟩
    · have e : d.grown i l s = ⟨d.size, d.slabs.set s (List.replicate d.size 0), d.taken.set s true, d.lands.set i ⟨l.there, l.gen, l.slabs ++ [s], 0⟩⟩ := by unfold PoolD.grown; rw [hf0]
      rw [e]
      exact hg2
    · rw [upd_other (fun e : p = j => hs' (e ▸ h.Sp.1)), upd_other (by omega), upd_other (by omega), upd_other (fun e : p = j => hs' (e ▸ h.Sp.1)), k1 j hs']
    · rintro (x | x)
      · exact hs' x
      · omega
  · subst hv0
    have hst := store3 (l' := ⟨l.there, l.gen, l.slabs ++ [s], l.slabs.length * d.size⟩) hl hv (f := .lit (.int .i64 ((l.slabs.length : Int) * (d.size : Int)))) (by unfold landC; rw [Int.natCast_mul])
    have hpn : p < n := h.lt p h.Sp.1
    have c4 : (n == p) = false := nb (by omega)
    have c5 : (n + 1 == p) = false := nb (by omega)
    have hl2 : (d.lands.set i ⟨l.there, l.gen, l.slabs ++ [s], l.slabs.length * d.size⟩)[i]? = some ⟨l.there, l.gen, l.slabs ++ [s], l.slabs.length * d.size⟩ := List.getElem?_set_self (List.getElem?_eq_some_iff.1 hl).1
    obtain ⟨t0, t1, t2, t3⟩ := drops (AV.lit (.int .i64 (d.size : Int))) (.rw N.gs 1 0 d.slabs.length) (.rw N.gt 1 0 d.slabs.length) (landsC_drop hl2 hv)
    have hlen2 : 3 + i * 4 ≤ (landsC (d.lands.set i ⟨l.there, l.gen, l.slabs ++ [s], l.slabs.length * d.size⟩) N.gl).length := by rw [landsC_len (by rw [List.length_set]; exact h.ok.ll.trans h.gl.symm), List.length_set, h.ok.ll]; omega
    have hst2 := store2 (v' := .rw (n + 1) 1 0 (l.slabs.length + 1)) (.rw N.gt 1 0 d.slabs.length) hl2 hv
    obtain ⟨e1, e2, e3⟩ := h1.nesG hg1
    have c1 := nb (Ne.symm e1)
    have c2 := nb e1
    have hgn : g < n := h.lt g hgS
    have c3 : (n == g) = false := nb (by omega)
    have c6 : (g == n) = false := nb (by omega)
    have q5 : (l.slabs.length + 1) * 8 ≤ 140737488355328 := by omega
    simp only [push_cast, Nat.reduceBEq, Nat.reduceAdd, Nat.reduceEqDiff, reduceCtorEq, Nat.reduceLeDiff, Nat.reduceSub, Nat.reduceMul, Nat.reduceLT, Int.reduceEq, Int.reduceLT, Int.reduceLE, Int.reduceBEq, Int.reduceBNe, Int.reduceToNat, Int.reduceNeg, Int.reduceSub, Int.reduceAdd, pl1, r0, r1, r2, r3, hwm, hlen, hst, t1, t2, hlen2, hst2, c1, c2, c3, c4, c5, c6, hg1, q5]
    have hg2 := h1.grew (n' := n + 1 + 1) (m := n + 1) (s := s) (f := l.slabs.length * d.size) (v := .rw g 1 0 l.slabs.length) (H' := upd (upd (upd (upd (upd H1 p (some (.cells (.lit (.int .i64 (d.size : Int)) :: .rw N.gs 1 0 d.slabs.length :: .rw N.gt 1 0 d.slabs.length :: landsC (d.lands.set i ⟨l.there, l.gen, l.slabs ++ [s], l.slabs.length * d.size⟩) N.gl)))) n (some (.row false 3 [[.lit (.int .i64 (s : Int))]]))) g (oldO false 3 (l.slabs.map natI))) (n + 1) (some (.row false 3 (l.slabs.map natI ++ [[.lit (.int .i64 (s : Int))]])))) p (some (.cells (.lit (.int .i64 (d.size : Int)) :: .rw N.gs 1 0 d.slabs.length :: .rw N.gt 1 0 d.slabs.length :: landsC (d.lands.set i ⟨l.there, l.gen, l.slabs ++ [s], l.slabs.length * d.size⟩) (N.gl.set i (.rw (n + 1) 1 0 (l.slabs.length + 1))))))) hl hv ht hll (by show _ < (d.slabs.set s _).length; rw [List.length_set]; exact hsk) (by omega) (by omega) rfl
      (by rw [upd_same]; simp only [List.length_set]) (by rw [upd_other (by omega), upd_same, List.map_append]; rfl) (fun j hj hjp hg => by rw [upd_other (Ne.symm hjp), upd_other (by omega), upd_other (Ne.symm (hg g rfl)), upd_other (by omega), upd_other (Ne.symm hjp)])
    refine ⟨rfl, fun j => S j ∨ j = n + 1, ⟨_, hg2⟩, by omega, fun j hj hs' => ⟨?_, ?_⟩⟩
    · rw [upd_other (fun e : p = j => hs' (e ▸ h.Sp.1)), upd_other (by omega), upd_other (fun e : g = j => hs' (e ▸ hgS)), upd_other (by omega), upd_other (fun e : p = j => hs' (e ▸ h.Sp.1)), k1 j hs']
    · rintro (x | x)
      · exact hs' x
      · omega
end
end Go.Proofs.Ytndojmpgadbefaa
