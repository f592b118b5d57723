/- The reference's pools: how they lie in the heap; which regions are there, which slabs are idle, a new region. -/
import Derived.Test.YtndojmpgadbefaaEpKeP
import Derived.Test.YtndojmpgadbefaaByS
set_option linter.unusedVariables false
set_option linter.unusedSimpArgs false
namespace Go.Proofs.Ytndojmpgadbefaa
open Go Go.RowKit Hv
set_option maxRecDepth 20000
set_option maxHeartbeats 4000000
def slabT (b : List UInt8) : List AV := [.lit (.string ⟨b.toArray⟩)]
structure RPN where
  gb : Nat
  go : Nat
  gl : List AV
structure RPH (H : Hp) (n : Nat) (S : Nat → Prop) (p : Nat) (N : RPN) (d : PoolD) (O : List Int) : Prop where
  pl : H p = some (.cells (.lit (.int .i64 (d.size : Int)) :: .rw N.gb 1 0 d.slabs.length :: .rw N.go 1 0 d.slabs.length :: landsC d.lands N.gl))
  gb : H N.gb = some (.row true 9 (d.slabs.map slabT))
  go : H N.go = some (.row true 3 (O.map intI))
  ol : O.length = d.taken.length
  ow : ∀ (s : Nat) (b : Bool) (z : Int), d.taken[s]? = some b → O[s]? = some z → (z < 0 ↔ b = false)
  gl : N.gl.length = 256
  ln : ∀ (i : Nat) (l : LandD) (v : AV), d.lands[i]? = some l → N.gl[i]? = some v → LandV H S l v
  gd : ∀ (i j g a b : Nat), N.gl[i]? = some (.rw g 1 0 a) → N.gl[j]? = some (.rw g 1 0 b) → i = j
  Sp : S p ∧ S N.gb ∧ S N.go
  lt : ∀ j, S j → j < n
  ok : PoolOk d
def RP (H : Hp) (n : Nat) (S : Nat → Prop) (p : Nat) (d : PoolD) : Prop := ∃ N O, RPH H n S p N d O
def RPP (H : Hp) (n : Nat) (S : Nat → Prop) (p : Nat) (d' : PoolD) (res r : AV) (H' : Hp) (n' : Nat) : Prop :=
  r = res ∧ ∃ S', RP H' n' S' p d' ∧ n ≤ n' ∧ ∀ j, j < n → ¬ S j → H' j = H j ∧ ¬ S' j
section
variable {H H' : Hp} {n n' p : Nat} {S : Nat → Prop} {d : PoolD} {N : RPN} {O : List Int}
theorem RPH.frame (h : RPH H n S p N d O) (hn : n ≤ n') (hh : ∀ j, S j → H' j = H j) : RPH H' n' S p N d O :=
  ⟨(hh _ h.Sp.1).trans h.pl, (hh _ h.Sp.2.1).trans h.gb, (hh _ h.Sp.2.2).trans h.go, h.ol, h.ow, h.gl, fun i l v h1 h2 => (h.ln i l v h1 h2).frame hh, h.gd, h.Sp, fun j hj => Nat.lt_of_lt_of_le (h.lt j hj) hn, h.ok⟩
theorem RP.frame (h : RP H n S p d) (hn : n ≤ n') (hh : ∀ j, S j → H' j = H j) : RP H' n' S p d := by
  obtain ⟨N, O, h⟩ := h
  exact ⟨N, O, h.frame hn hh⟩
theorem RP.lt (h : RP H n S p d) : ∀ j, S j → j < n := by
  obtain ⟨N, O, h⟩ := h
  exact h.lt
theorem RP.ok (h : RP H n S p d) : PoolOk d := by
  obtain ⟨N, O, h⟩ := h
  exact h.ok
theorem RP.Sp (h : RP H n S p d) : S p := by
  obtain ⟨N, O, h⟩ := h
  exact h.Sp.1
theorem RPH.nes (h : RPH H n S p N d O) : N.go ≠ p ∧ N.go ≠ N.gb ∧ N.gb ≠ p :=
  ⟨heap_ne h.go h.pl (by intro e; cases e), heap_ne h.go h.gb (by intro e; injection e with _ e; exact absurd e (by decide)), heap_ne h.gb h.pl (by intro e; cases e)⟩
theorem RPH.nesG (h : RPH H n S p N d O) {g : Nat} {l : List Nat} (hs : H g = some (.row false 3 (l.map natI))) : g ≠ p ∧ g ≠ N.gb ∧ g ≠ N.go :=
  ⟨heap_ne hs h.pl (by intro e; cases e), heap_ne hs h.gb (by intro e; cases e), heap_ne hs h.go (by intro e; cases e)⟩
theorem RPH.at (h : RPH H n S p N d O) {i : Nat} {l : LandD} (hl : d.lands[i]? = some l) : ∃ v, N.gl[i]? = some v ∧ LandV H S l v ∧ i < 256 ∧
    List.drop (i * 4) (landsC d.lands N.gl) = .lit (.bool l.there) :: .lit (.int .i64 (l.gen : Int)) :: v :: .lit (.int .i64 (l.fill : Int)) :: landsC (d.lands.drop (i + 1)) (N.gl.drop (i + 1)) := by
  have hlt := (List.getElem?_eq_some_iff.1 hl).1
  rw [h.ok.ll] at hlt
  obtain ⟨v, hv⟩ : ∃ v, N.gl[i]? = some v := ⟨_, List.getElem?_eq_getElem (by rw [h.gl]; exact hlt)⟩
  exact ⟨_, hv, h.ln i l _ hl hv, hlt, landsC_drop hl hv⟩
/-- A region is another: without slabs. -/
theorem RPH.empty (h : RPH H n S p N d O) {i : Nat} {l l' : LandD} (hl : d.lands[i]? = some l) (he : l'.slabs = []) (hf : l'.fill = 0) (hn : n ≤ n')
    (hc : H' p = some (.cells (.lit (.int .i64 (d.size : Int)) :: .rw N.gb 1 0 d.slabs.length :: .rw N.go 1 0 d.slabs.length :: landsC (d.lands.set i l') (N.gl.set i nilV)))) (hh : ∀ j, S j → j ≠ p → H' j = H j) :
    RPH H' n' S p ⟨N.gb, N.go, N.gl.set i nilV⟩ ⟨d.size, d.slabs, d.taken, d.lands.set i l'⟩ O := by
  have hp := h.pl
  have ne : ∀ {j o}, S j → H j = some o → (∀ cs, o ≠ .cells cs) → H' j = some o := fun {j o} hj e hne => by
    rw [hh j hj (fun e' => by rw [e', hp] at e; injection e with e; exact hne _ e.symm)]; exact e
  obtain ⟨v0, hv0, _⟩ := h.at hl
  have hgi := (List.getElem?_eq_some_iff.1 hv0).1
  have hli := (List.getElem?_eq_some_iff.1 hl).1
  refine ⟨hc, ne h.Sp.2.1 h.gb (by intro cs e; cases e), ne h.Sp.2.2 h.go (by intro cs e; cases e), h.ol, h.ow, by rw [List.length_set]; exact h.gl, fun j l1 v h1 h2 => ?_, fun j k g a b h1 h2 => ?_, h.Sp, fun j hj => Nat.lt_of_lt_of_le (h.lt j hj) hn, h.ok.land ⟨by rw [he]; exact Nat.zero_le _, by rw [he]; simp, by rw [hf]; exact Nat.zero_le _, by rw [he]; simp, fun _ => he⟩⟩
  · by_cases hj : j = i
    · subst hj
      rw [List.getElem?_set_self hli] at h1
      rw [List.getElem?_set_self hgi] at h2
      injection h1 with h1
      injection h2 with h2
      subst h1 h2
      exact .inl ⟨rfl, he⟩
    · rw [List.getElem?_set_ne (Ne.symm hj)] at h1 h2
      rcases h.ln j l1 v h1 h2 with q | ⟨g, q1, q2, q3⟩
      · exact .inl q
      · exact .inr ⟨g, q1, ne q3.1 q2 (by intro cs e; cases e), q3⟩
  · have key : ∀ {j g a : Nat}, (N.gl.set i nilV)[j]? = some (.rw g 1 0 a) → N.gl[j]? = some (.rw g 1 0 a) := fun {j g a} hj => by
      by_cases e : j = i
      · subst e
        rw [List.getElem?_set_self hgi] at hj
        injection hj with hj
        cases hj
      · rwa [List.getElem?_set_ne (Ne.symm e)] at hj
    exact h.gd j k g a b (key h1) (key h2)
/-- A region is filled up to another place. -/
theorem RPH.refill (h : RPH H n S p N d O) {i f : Nat} {l : LandD} {v : AV} (hl : d.lands[i]? = some l) (hv : N.gl[i]? = some v) (hn : n ≤ n') (hf : f ≤ l.slabs.length * d.size ∧ (l.slabs.length - 1) * d.size ≤ f)
    (hc : H' p = some (.cells (.lit (.int .i64 (d.size : Int)) :: .rw N.gb 1 0 d.slabs.length :: .rw N.go 1 0 d.slabs.length :: landsC (d.lands.set i ⟨l.there, l.gen, l.slabs, f⟩) N.gl))) (hh : ∀ j, S j → j ≠ p → H' j = H j) :
    RPH H' n' S p N (d.filled i l f) O := by
  have hp := h.pl
  have ne : ∀ {j o}, S j → H j = some o → (∀ cs, o ≠ .cells cs) → H' j = some o := fun {j o} hj e q => by
    rw [hh j hj (fun e' => by rw [e', hp] at e; injection e with e; exact q _ e.symm)]; exact e
  have hli := (List.getElem?_eq_some_iff.1 hl).1
  refine ⟨hc, ne h.Sp.2.1 h.gb (by intro cs e; cases e), ne h.Sp.2.2 h.go (by intro cs e; cases e), h.ol, h.ow, h.gl, fun j l1 v1 h1 h2 => ?_, h.gd, h.Sp, fun j hj => Nat.lt_of_lt_of_le (h.lt j hj) hn, h.ok.land ?_⟩
  · have key : ∀ l2, d.lands[j]? = some l2 → l1.slabs = l2.slabs → LandV H' S l1 v1 := fun l2 e1 e2 => by
      rcases h.ln j l2 v1 e1 h2 with ⟨q, q'⟩ | ⟨g, q1, q2, q3, q4⟩
      · exact .inl ⟨q, e2.trans q'⟩
      · exact .inr ⟨g, by rw [e2]; exact q1, by rw [e2]; exact ne q3 q2 (by intro cs e; cases e), q3, by rw [e2]; exact q4⟩
    by_cases hj : j = i
    · subst hj
      rw [show (d.filled j l f).lands[j]? = some ⟨l.there, l.gen, l.slabs, f⟩ from List.getElem?_set_self hli] at h1
      injection h1 with h1
      exact key l hl (by rw [← h1])
    · rw [show (d.filled i l f).lands[j]? = d.lands[j]? from List.getElem?_set_ne (Ne.symm hj)] at h1
      exact key l1 h1 rfl
  · have hm := h.ok.ls l (List.mem_of_getElem? hl)
    exact ⟨hm.1, hm.2.1, hf.1, hf.2, hm.2.2.2.2⟩
/-- A slab has other bytes, and another owner. -/
theorem RPH.took (h : RPH H n S p N d O) {s : Nat} (hs : s < d.slabs.length) {c : List UInt8} {b : Bool} {z : Int} (hz : z < 0 ↔ b = false) (hc : c.length = d.size) (hn : n ≤ n')
    (h1 : H' N.go = some (.row true 3 ((O.set s z).map intI))) (h2 : H' N.gb = some (.row true 9 ((d.slabs.set s c).map slabT))) (hh : ∀ j, S j → j ≠ N.go → j ≠ N.gb → H' j = H j) :
    RPH H' n' S p N ⟨d.size, d.slabs.set s c, d.taken.set s b, d.lands⟩ (O.set s z) := by
  obtain ⟨n1, n2, n3⟩ := h.nes
  refine ⟨by rw [hh p h.Sp.1 (Ne.symm n1) (Ne.symm n3)]; show _ = some (AO.cells (_ :: AV.rw _ 1 0 (d.slabs.set s c).length :: AV.rw _ 1 0 (d.slabs.set s c).length :: _)); rw [List.length_set]; exact h.pl, h2, h1, by show (O.set s z).length = (d.taken.set s b).length; rw [List.length_set, List.length_set]; exact h.ol, fun j x y q1 q2 => ?_, h.gl, fun i l v q1 q2 => ?_, h.gd, h.Sp, fun j hj => Nat.lt_of_lt_of_le (h.lt j hj) hn, ⟨h.ok.sz, by show (d.slabs.set s c).length ≤ _; rw [List.length_set]; exact h.ok.k, fun x hx => ?_, h.ok.ll, by show (d.taken.set s b).length = (d.slabs.set s c).length; rw [List.length_set, List.length_set]; exact h.ok.tl, fun l hl => by
    have := h.ok.ls l hl
    show _ ∧ (∀ t ∈ l.slabs, t < (d.slabs.set s c).length) ∧ _
    rw [List.length_set]; exact this⟩⟩
  · have q1 : (d.taken.set s b)[j]? = some x := q1
    by_cases hj : s = j
    · subst hj
      have hst : s < d.taken.length := by rw [h.ok.tl]; exact hs
      rw [List.getElem?_set_self hst] at q1
      rw [List.getElem?_set_self (by rw [h.ol]; exact hst)] at q2
      injection q1 with q1
      injection q2 with q2
      rw [← q1, ← q2]; exact hz
    · rw [List.getElem?_set_ne hj] at q1 q2
      exact h.ow j x y q1 q2
  · rcases h.ln i l v q1 q2 with q | ⟨g, e1, e2, e3⟩
    · exact .inl q
    · exact .inr ⟨g, e1, (hh g e3.1 (h.nesG e2).2.2 (h.nesG e2).2.1).trans e2, e3⟩
  · rcases List.mem_or_eq_of_mem_set hx with hx | rfl
    · exact h.ok.bs x hx
    · exact hc
/-- A region's slabs are one more. -/
theorem RPH.grew (h : RPH H n S p N d O) {i s m f : Nat} {l : LandD} {v : AV} (hl : d.lands[i]? = some l) (hv : N.gl[i]? = some v) (ht : l.there = true) (hll : l.slabs.length < 4096) (hs : s < d.slabs.length) (hm : n ≤ m) (hn : m < n') (hf : f ≤ (l.slabs.length + 1) * d.size ∧ l.slabs.length * d.size ≤ f)
    (hc : H' p = some (.cells (.lit (.int .i64 (d.size : Int)) :: .rw N.gb 1 0 d.slabs.length :: .rw N.go 1 0 d.slabs.length :: landsC (d.lands.set i ⟨l.there, l.gen, l.slabs ++ [s], f⟩) (N.gl.set i (.rw m 1 0 (l.slabs.length + 1))))))
    (hg : H' m = some (.row false 3 ((l.slabs ++ [s]).map natI))) (hh : ∀ j, j < n → j ≠ p → (∀ g, v = .rw g 1 0 l.slabs.length → j ≠ g) → H' j = H j) :
    RPH H' n' (fun j => S j ∨ j = m) p ⟨N.gb, N.go, N.gl.set i (.rw m 1 0 (l.slabs.length + 1))⟩ ⟨d.size, d.slabs, d.taken, d.lands.set i ⟨l.there, l.gen, l.slabs ++ [s], f⟩⟩ O := by
  have hp := h.pl
  have hgi := (List.getElem?_eq_some_iff.1 hv).1
  have hli := (List.getElem?_eq_some_iff.1 hl).1
  have hlv := h.ln i l v hl hv
  have vg : ∀ g, v = .rw g 1 0 l.slabs.length → H g = some (.row false 3 (l.slabs.map natI)) := fun g e => by
    rcases hlv with ⟨q, _⟩ | ⟨g', q1, q2, _⟩
    · rw [q] at e; cases e
    · rw [q1] at e
      injection e with e
      rw [← e]; exact q2
  have ne : ∀ {j o}, S j → H j = some o → (∀ cs, o ≠ .cells cs) → (∀ l, o ≠ .row false 3 l) → H' j = some o := fun {j o} hj e q1 q2 => by
    rw [hh j (h.lt j hj) (fun e' => by rw [e', hp] at e; injection e with e; exact q1 _ e.symm) (fun g hg e' => by rw [e', vg g hg] at e; injection e with e; exact q2 _ e.symm)]; exact e
  refine ⟨hc, ne h.Sp.2.1 h.gb (by intro cs e; cases e) (by intro cs e; cases e), ne h.Sp.2.2 h.go (by intro cs e; cases e) (by intro cs e; cases e), h.ol, h.ow, by show (N.gl.set i _).length = _; rw [List.length_set]; exact h.gl, fun j l1 v1 h1 h2 => ?_, fun j k g a b h1 h2 => ?_, ⟨.inl h.Sp.1, .inl h.Sp.2.1, .inl h.Sp.2.2⟩, fun j hj => ?_, h.ok.land ?_⟩
  · by_cases hj : j = i
    · subst hj
      rw [List.getElem?_set_self hli] at h1
      rw [List.getElem?_set_self hgi] at h2
      injection h1 with h1
      injection h2 with h2
      subst h1 h2
      exact .inr ⟨m, by rw [List.length_append]; rfl, hg, .inr rfl, by simp⟩
    · rw [List.getElem?_set_ne (Ne.symm hj)] at h1 h2
      rcases h.ln j l1 v1 h1 h2 with q | ⟨g, q1, q2, q3⟩
      · exact .inl q
      · refine .inr ⟨g, q1, ?_, .inl q3.1, q3.2⟩
        rw [hh g (h.lt g q3.1) (fun e => by rw [e, hp] at q2; cases q2) (fun g' hg' e => hj ?_)]
        · exact q2
        · subst e
          rw [q1] at h2
          rw [hg'] at hv
          exact h.gd j i g _ _ h2 hv
  · have key : ∀ {j g a : Nat}, (N.gl.set i (.rw m 1 0 (l.slabs.length + 1)))[j]? = some (.rw g 1 0 a) → (j = i ∧ g = m) ∨ (j ≠ i ∧ N.gl[j]? = some (.rw g 1 0 a) ∧ g < n) := fun {j g a} hj => by
      by_cases e : j = i
      · subst e
        rw [List.getElem?_set_self hgi] at hj
        injection hj with hj
        injection hj with hj
        exact .inl ⟨rfl, hj.symm⟩
      · rw [List.getElem?_set_ne (Ne.symm e)] at hj
        obtain ⟨lj, hlj⟩ : ∃ lj, d.lands[j]? = some lj := ⟨_, List.getElem?_eq_getElem (by have := (List.getElem?_eq_some_iff.1 hj).1; rw [h.gl] at this; rw [h.ok.ll]; exact this)⟩
        refine .inr ⟨e, hj, ?_⟩
        rcases h.ln j lj _ hlj hj with ⟨q, _⟩ | ⟨g', q1, _, q3⟩
        · cases q
        · injection q1 with q1
          rw [q1]; exact h.lt _ q3.1
    rcases key h1 with ⟨a1, a2⟩ | ⟨a1, a2, a3⟩ <;> rcases key h2 with ⟨b1, b2⟩ | ⟨b1, b2, b3⟩
    · rw [a1, b1]
    · omega
    · omega
    · exact h.gd j k g a b a2 b2
  · rcases hj with hj | rfl
    · have := h.lt j hj; omega
    · exact hn
  · have hm := h.ok.ls l (List.mem_of_getElem? hl)
    have e : (l.slabs ++ [s]).length = l.slabs.length + 1 := by simp
    refine ⟨by rw [e]; omega, fun t ht => ?_, by rw [e]; exact hf.1, by rw [e]; exact hf.2, fun hf => ?_⟩
    · rcases List.mem_append.1 ht with ht | ht
      · exact hm.2.1 t ht
      · rw [List.mem_singleton.1 ht]; exact hs
    · rw [show l.there = false from hf] at ht; cases ht
theorem rthere_c (h : RPH H n S p N d O) {i : Nat} {l : LandD} (hl : d.lands[i]? = some l) :
    HCalls Try.prog 59 [.ptr p 0, .lit (.int .i64 (i : Int))] H n fun r H' n' => r = .lit (.bool l.there) ∧ H' = H ∧ n' = n := by
  refine hcallsC_of (rs := [.tmp 4]) ⟨[0, 1, 4], [], [], [], []⟩ TOk mixed Try.func59 rfl rfl (by kernel_rfl) (by kernel_rfl) rfl ?_
  have pl := h.pl
  obtain ⟨v, hv, hlv, hi, hd⟩ := h.at hl
  obtain ⟨r0, r1, r2, r3⟩ := drops (AV.lit (.int .i64 (d.size : Int))) (.rw N.gb 1 0 d.slabs.length) (.rw N.go 1 0 d.slabs.length) hd
  have g1 : (i : Int) ≥ 0 := by omega
  have g2 : (i : Int) < 256 := by omega
  simp only [push_cast, Nat.reduceBEq, Nat.reduceAdd, Nat.reduceEqDiff, reduceCtorEq, Nat.reduceLeDiff, Nat.reduceSub, Nat.reduceMul, Nat.reduceLT, Int.reduceEq, Int.reduceLT, Int.reduceLE, Int.reduceBEq, Int.reduceBNe, Int.reduceToNat, Int.reduceNeg, Int.reduceSub, Int.reduceAdd, pl, r0, g1, g2]
theorem idleN_drop {t : List Bool} {k : Nat} {b : Bool} (h : t[k]? = some b) : idleN (t.drop k) = idleN (t.drop (k + 1)) + (if b then 0 else 1) := by
  have hk := (List.getElem?_eq_some_iff.1 h)
  rw [List.drop_eq_getElem_cons hk.1, hk.2]
  unfold idleN
  cases b <;> simp
def LeastI (t : List Bool) (k : Nat) (z : Int) : Prop := (firstIdle (t.drop k) = none ∧ z = -1) ∨ ∃ s : Nat, firstIdle (t.drop k) = some s ∧ z = ((s + k : Nat) : Int)
theorem leastI_drop {t : List Bool} {k : Nat} {b : Bool} {z : Int} (h : t[k]? = some b) (hz : LeastI t (k + 1) z) : LeastI t k (if b then z else (k : Int)) := by
  have hk := (List.getElem?_eq_some_iff.1 h)
  unfold LeastI at hz ⊢
  rw [List.drop_eq_getElem_cons hk.1, hk.2]
  cases b with
  | false => exact .inr ⟨0, by unfold firstIdle; rw [List.findIdx?_cons]; rfl, by simp⟩
  | true =>
    unfold firstIdle at hz ⊢
    rw [List.findIdx?_cons]
    rcases hz with ⟨h1, h2⟩ | ⟨s, h1, h2⟩
    · exact .inl ⟨by rw [h1]; rfl, h2⟩
    · exact .inr ⟨s + 1, by rw [h1]; rfl, by rw [if_pos rfl, h2]; omega⟩
theorem ridle_c (h : RPH H n S p N d O) :
    HCalls Try.prog 33 [.ptr p 0] H n fun r H' n' => (∃ z : Int, r = .tup [.lit (.int .i64 (idleN d.taken : Int)), .lit (.int .i64 z)] ∧ ((firstIdle d.taken = none ∧ z = -1) ∨ ∃ s : Nat, firstIdle d.taken = some s ∧ z = (s : Int))) ∧ H' = H ∧ n' = n := by
  refine hcallsC_of (rs := [.tmp 2, .tmp 3]) ⟨[0, 2, 3, 4, 5, 6, 14, 24], [], [], [], []⟩ TOk mixed Try.func33 rfl rfl (by kernel_rfl) (by kernel_rfl) rfl ?_
  have pl := h.pl
  have go := h.go
  have hol := h.ol
  have htl := h.ok.tl
  have hk := h.ok.k
  have hwl : IntKind.i64.wrap ((d.slabs.length : Int) - 1) = (d.slabs.length : Int) - 1 := IntWalk.i64_in _ (by omega)
  simp only [push_cast, Nat.reduceBEq, Nat.reduceAdd, Nat.reduceEqDiff, reduceCtorEq, Nat.reduceLeDiff, Nat.reduceSub, Nat.reduceMul, Nat.reduceLT, Int.reduceEq, Int.reduceLT, Int.reduceLE, Int.reduceBEq, Int.reduceBNe, Int.reduceToNat, Int.reduceNeg, Int.reduceSub, Int.reduceAdd, pl, go, hwl]
  refine loopK (fun q s => ∃ (k : Nat) (z : Int), k ≤ d.slabs.length ∧ q = k ∧ LeastI d.taken k z ∧ s = ⟨[(0, .ptr p 0), (4, .lit (.int .i64 (idleN (d.taken.drop k) : Int))), (5, .lit (.int .i64 z)), (6, .lit (.int .i64 ((k : Int) - 1)))], H, n⟩) _ [0, 4, 5, 6]
    ⟨d.slabs.length, -1, Nat.le_refl _, rfl, .inl ⟨by rw [← htl, List.drop_length]; rfl, rfl⟩, by rw [← htl, List.drop_length]; rfl⟩ ?_
  rintro k _ ⟨_, z, hkl, rfl, hz, rfl⟩
  cases k with
  | zero =>
    simp only [push_cast, Nat.reduceBEq, Nat.reduceAdd, Nat.reduceEqDiff, reduceCtorEq, Nat.reduceLeDiff, Nat.reduceSub, Nat.reduceMul, Nat.reduceLT, Int.reduceEq, Int.reduceLT, Int.reduceLE, Int.reduceBEq, Int.reduceBNe, Int.reduceToNat, Int.reduceNeg, Int.reduceSub, Int.reduceAdd, show ¬ ((0 : Nat) : Int) - 1 ≥ 0 by decide, List.drop_zero]
    refine ⟨z, rfl, ?_⟩
    unfold LeastI at hz
    rw [List.drop_zero] at hz
    exact hz
  | succ k =>
    have e1 : ((k + 1 : Nat) : Int) - 1 = (k : Int) := by omega
    have g1 : (k : Int) ≥ 0 := by omega
    have g1' : (0 : Int) ≤ (k : Int) := by omega
    obtain ⟨b, hb⟩ : ∃ b, d.taken[k]? = some b := ⟨_, List.getElem?_eq_getElem (by omega)⟩
    obtain ⟨y, hy⟩ : ∃ y, O[k]? = some y := ⟨_, List.getElem?_eq_getElem (by omega)⟩
    have hyb := h.ow k b y hb hy
    have hyi : (O.map intI)[k]? = some [.lit (.int .i64 y)] := by rw [List.getElem?_map, hy]; rfl
    have hkl' : (k : Int) < (d.slabs.length : Int) := by omega
    have hwk : IntKind.i64.wrap ((k : Int) - 1) = (k : Int) - 1 := IntWalk.i64_in _ (by omega)
    have hI := idleN_drop hb
    have hL := leastI_drop hb hz
    have hidl : idleN (d.taken.drop (k + 1)) ≤ 4096 := by
      unfold idleN
      have h1 := List.length_filter_le (fun b => !b) (d.taken.drop (k + 1))
      have h2 : (d.taken.drop (k + 1)).length ≤ d.taken.length := by rw [List.length_drop]; omega
      omega
    have hwn := wrap_nat0 (k := idleN (d.taken.drop (k + 1))) (by omega)
    rw [e1]
    cases b with
    | true =>
      have hn : ¬ y < 0 := fun h => by have := hyb.1 h; cases this
      simp only [push_cast, Nat.reduceBEq, Nat.reduceAdd, Nat.reduceEqDiff, reduceCtorEq, Nat.reduceLeDiff, Nat.reduceSub, Nat.reduceMul, Nat.reduceLT, Int.reduceEq, Int.reduceLT, Int.reduceLE, Int.reduceBEq, Int.reduceBNe, Int.reduceToNat, Int.reduceNeg, Int.reduceSub, Int.reduceAdd, pl, go, g1, g1', hyi, hkl', hn, hwk]
      refine ⟨_, by omega, k, z, by omega, rfl, by simpa using hL, ?_⟩
      rw [hI]; rfl
    | false =>
      have hn : y < 0 := hyb.2 rfl
      simp only [push_cast, Nat.reduceBEq, Nat.reduceAdd, Nat.reduceEqDiff, reduceCtorEq, Nat.reduceLeDiff, Nat.reduceSub, Nat.reduceMul, Nat.reduceLT, Int.reduceEq, Int.reduceLT, Int.reduceLE, Int.reduceBEq, Int.reduceBNe, Int.reduceToNat, Int.reduceNeg, Int.reduceSub, Int.reduceAdd, pl, go, g1, g1', hyi, hkl', hn, hwk, hwn]
      refine ⟨_, by omega, k, (k : Int), by omega, rfl, by simpa using hL, ?_⟩
      rw [hI]; rfl
theorem rmake_c (h : RPH H n S p N d O) {i : Nat} {l : LandD} (hl : d.lands[i]? = some l) (hf : l.there = false) (hb : ∀ (j : Nat) (l : LandD), j < i → d.lands[j]? = some l → l.there = true) (hg : l.gen ≤ 1000000000) :
    HCalls Try.prog 50 [.ptr p 0] H n (RPP H n S p (d.made i l) (.tup [.lit (.int .i64 (i : Int)), .lit (.int .i64 0)])) := by
  refine hcallsC_of (rs := [.tmp 2, .tmp 3]) ⟨[0, 2, 3, 4, 6, 16], [], [], [(5, [(0, [], []), (1, [], []), (2, [], []), (3, [], []), (4, [], []), (5, [], []), (6, [], []), (7, [], []), (8, [], []), (9, [], []), (10, [], []), (11, [], []), (12, [], []), (13, [], []), (14, [], [13, 10, 0, 1, 2, 3, 4, 5, 6, 7, 8, 9, 12, 11])])], []⟩ TOk mixed Try.func50 rfl rfl (by kernel_rfl) (by kernel_rfl) rfl ?_
  have pl := h.pl
  obtain ⟨v, hv, hlv, hi, hd⟩ := h.at hl
  simp only [push_cast, Nat.reduceBEq, Nat.reduceAdd, Nat.reduceEqDiff, reduceCtorEq, Nat.reduceLeDiff, Nat.reduceSub, Nat.reduceMul, Nat.reduceLT, Int.reduceEq, Int.reduceLT, Int.reduceLE, Int.reduceBEq, Int.reduceBNe, Int.reduceToNat, Int.reduceNeg, Int.reduceSub, Int.reduceAdd]
  refine loopK (fun q s => ∃ (k : Nat), k ≤ i ∧ q = i - k ∧ s = ⟨[(0, .ptr p 0), (4, .lit (.int .i64 (k : Int)))], H, n⟩) _ [0, 4] ⟨0, by omega, rfl, rfl⟩ ?_
  rintro q _ ⟨k, hk, rfl, rfl⟩
  have h3 : (k : Int) < 256 := by omega
  have hwk := wrap_nat0 (k := k) (by omega)
  obtain ⟨lk, hlk⟩ : ∃ lk, d.lands[k]? = some lk := ⟨_, List.getElem?_eq_getElem (by rw [h.ok.ll]; omega)⟩
  obtain ⟨vk, hvk, hlvk, _, hdk⟩ := h.at hlk
  have hdr := (drop3 (AV.lit (.int .i64 (d.size : Int))) (.rw N.gb 1 0 d.slabs.length) (.rw N.go 1 0 d.slabs.length) (landsC d.lands N.gl) k).trans hdk
  by_cases hki : k < i
  · have ht := hb k lk hki hlk
    simp only [push_cast, Nat.reduceBEq, Nat.reduceAdd, Nat.reduceEqDiff, reduceCtorEq, Nat.reduceLeDiff, Nat.reduceSub, Nat.reduceMul, Nat.reduceLT, Int.reduceEq, Int.reduceLT, Int.reduceLE, Int.reduceBEq, Int.reduceBNe, Int.reduceToNat, Int.reduceNeg, Int.reduceSub, Int.reduceAdd, h3, pl, hdr, ht, hwk]
    exact ⟨_, by omega, k + 1, by omega, rfl, rfl⟩
  · obtain rfl : k = i := by omega
    rw [hl] at hlk
    injection hlk with hlk
    subst hlk
    have hgw : IntKind.i64.wrap ((l.gen : Int) + 1) = (l.gen : Int) + 1 := IntWalk.i64_in _ (by omega)
    obtain ⟨r0, r1, r2, r3⟩ := drops (AV.lit (.int .i64 (d.size : Int))) (.rw N.gb 1 0 d.slabs.length) (.rw N.go 1 0 d.slabs.length) hd
    have hlen : 3 + k * 4 + 1 ≤ (landsC d.lands N.gl).length := by rw [landsC_len (h.ok.ll.trans h.gl.symm), h.ok.ll]; omega
    have hst := stores (l' := ⟨true, l.gen + 1, [], 0⟩) (v' := nilV) (AV.lit (.int .i64 (d.size : Int))) (.rw N.gb 1 0 d.slabs.length) (.rw N.go 1 0 d.slabs.length) hl hv (a := .lit (.bool true)) (g := .lit (.int .i64 ((l.gen : Int) + 1))) (f := .lit (.int .i64 0)) rfl
    unfold nilV at hst
    simp only [push_cast, Nat.reduceBEq, Nat.reduceAdd, Nat.reduceEqDiff, reduceCtorEq, Nat.reduceLeDiff, Nat.reduceSub, Nat.reduceMul, Nat.reduceLT, Int.reduceEq, Int.reduceLT, Int.reduceLE, Int.reduceBEq, Int.reduceBNe, Int.reduceToNat, Int.reduceNeg, Int.reduceSub, Int.reduceAdd, h3, pl, r0, r1, hf, hgw, hlen, hst]
    exact ⟨rfl, S, ⟨_, _, h.empty hl rfl rfl (Nat.le_refl _) (upd_same _ _ _) fun j hj hne => upd_other (Ne.symm hne)⟩, Nat.le_refl _, fun j hj hs => ⟨upd_other fun e => hs (e ▸ h.Sp.1), hs⟩⟩
theorem aligned_1 {H : Hp} {n : Nat} : HCalls Try.prog 60 [.lit (.int .i64 1)] H n fun r H' n' => r = .lit (.bool true) ∧ H' = H ∧ n' = n := by
  refine hcallsC_of (rs := [.tmp 2]) ⟨[0, 2], [], [], [], []⟩ TOk mixed Try.func60 rfl rfl (by kernel_rfl) (by kernel_rfl) rfl ?_
  simp only [push_cast, Nat.reduceBEq, Nat.reduceAdd, Nat.reduceEqDiff, reduceCtorEq, Nat.reduceLeDiff, Nat.reduceSub, Nat.reduceMul, Nat.reduceLT, Int.reduceEq, Int.reduceLT, Int.reduceLE, Int.reduceBEq, Int.reduceBNe, Int.reduceToNat, Int.reduceNeg, Int.reduceSub, Int.reduceAdd]
end
end Go.Proofs.Ytndojmpgadbefaa
