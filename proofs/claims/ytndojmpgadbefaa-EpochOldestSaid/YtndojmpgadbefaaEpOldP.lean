/- EpochOldest, plain. -/
import Derived.Test.YtndojmpgadbefaaEpX
set_option linter.unusedVariables false
set_option linter.unusedSimpArgs false
namespace Go.Proofs.Ytndojmpgadbefaa
open Go Go.RowKit Hv
set_option maxRecDepth 20000
/-- Between the calls. -/
structure OldI (i : Nat) (D : EpD) (P : List Int) (was : Int) : Prop where
  x : EpX D
  ok : EpOk D
  kn : (D.pins.map (·.key)).Nodup
  pp : PinsP D P
  now1 : 1 ≤ D.now
  nowB : D.now ≤ i + 1
  len : P.length ≤ i
  old : IsOldest D was
  lo : (D.lo : Int) ≤ was
/-- Behind a call. -/
structure OldS (i : Nat) (was : Int) (D : EpD) (P : List Int) : Prop where
  x : EpX D
  pp : PinsP D P
  now1 : 1 ≤ D.now
  nowB : D.now ≤ i + 2
  len : P.length ≤ i + 1
  mono : was ≤ leastP D.now P
  lo : (D.lo : Int) ≤ leastP D.now P
theorem oldest_mono {D D' : EpD} {z z' : Int} (h : IsOldest D z) (h' : IsOldest D' z') (hn : D.now ≤ D'.now) (hp : ∀ x ∈ D'.pins, z ≤ x.val) : z ≤ z' := by
  rcases h'.is with e | ⟨x, hx, e⟩
  · have := h.le; omega
  · rw [e]; exact hp x hx
section
variable {i : Nat} {D : EpD} {P : List Int} {was : Int}
theorem OldI.same (h : OldI i D P was) : OldS i was D P := by
  have he := h.pp.oldest.uniq h.old
  exact ⟨h.x, h.pp, h.now1, by have := h.nowB; omega, by have := h.len; omega, by rw [he]; exact Int.le_refl _, by rw [he]; exact h.lo⟩
theorem OldI.pin (h : OldI i D P was) : OldS i was (D.pinned (D.last + 1) (D.pins ++ [⟨((D.last + 1 : Nat) : Int), (D.now : Int), D.pc⟩], D.pc + 1)) (P ++ [(D.now : Int)]) := by
  have hp := h.pp.pin h.now1
  have hm := oldest_mono h.old hp.oldest (Nat.le_refl D.now) fun x hx => by
    have hx : x ∈ D.pins ++ [_] := hx
    rcases List.mem_append.1 hx with hx | hx
    · exact h.old.all x hx
    · rw [List.mem_singleton.1 hx]; exact h.old.le
  exact ⟨⟨h.x.gen, h.x.own⟩, hp, h.now1, by have := h.nowB; show D.now ≤ _; omega, by have := h.len; rw [List.length_append]; exact Nat.succ_le_succ this, hm, Int.le_trans h.lo hm⟩
theorem OldI.unpin (h : OldI i D P was) {k : Nat} (hk : k < P.length) : OldS i was (D.pinned D.last (delE D.pins ((k + 1 : Nat) : Int), D.pc)) (P.set k 0) := by
  have hp := h.pp.unpin h.kn hk
  have hm := oldest_mono h.old hp.oldest (Nat.le_refl D.now) fun x hx => h.old.all x (del_sub x hx)
  exact ⟨⟨h.x.gen, h.x.own⟩, hp, h.now1, by have := h.nowB; show D.now ≤ _; omega, by have := h.len; rw [List.length_set]; omega, hm, Int.le_trans h.lo hm⟩
theorem set_at {α : Type} : ∀ {l : List α} {k : Nat} {a : α}, l[k]? = some a → l.set k a = l
  | x :: l, 0, a, h => by simp at h; rw [h]; rfl
  | x :: l, k + 1, a, h => by rw [List.set_cons_succ, set_at (by simpa using h)]
  | [], _, _, h => by simp at h
theorem OldI.adv (h : OldI i D P was) {j : Nat} {l : LandD} (hl : D.pool.lands[j]? = some l) : OldS i was (D.adv j l) P := by
  have hp : PinsP (D.adv j l) P := ⟨h.pp.last, h.pp.inn, h.pp.out, h.pp.pos⟩
  have hm := oldest_mono h.old hp.oldest (Nat.le_succ D.now) fun x hx => h.old.all x hx
  exact ⟨h.x.adv hl, hp, Nat.succ_pos _, by have := h.nowB; show D.now + 1 ≤ _; omega, by have := h.len; omega, hm, Int.le_trans h.lo hm⟩
theorem OldI.cut (h : OldI i D P was) : ∃ c : Nat, ((D.lo : Int) + c = was ∨ (was ≤ D.lo ∧ c = 0)) ∧ c < D.eras.length := by
  have h1 := h.lo
  have h2 := h.old.le
  have h3 := h.ok.cnt
  exact ⟨(was - D.lo).toNat, .inl (by omega), by omega⟩
theorem OldI.collect (h : OldI i D P was) {c : Nat} (hc : (D.lo : Int) + c = was ∨ (was ≤ D.lo ∧ c = 0)) (hl : c < D.eras.length) : OldS i was (D.dropped c) P := by
  obtain ⟨d1, d2, d3, d4, d5, d6⟩ := dropped_is c D (Nat.le_of_lt hl)
  obtain ⟨ok', x'⟩ := dropped_ok c D hl h.ok h.x
  have hp : PinsP (D.dropped c) P := ⟨by rw [d4]; exact h.pp.last, by rw [d5]; exact h.pp.inn, by rw [d5]; exact h.pp.out, h.pp.pos⟩
  have he := h.pp.oldest.uniq h.old
  refine ⟨x', hp, by rw [d3]; exact h.now1, by rw [d3]; have := h.nowB; omega, by have := h.len; omega, by rw [d3, he]; exact Int.le_refl _, ?_⟩
  rw [d3, he, d2]
  have := h.lo
  omega
theorem OldS.next (h : OldS i was D P) (ok : EpOk D) (kn : (D.pins.map (·.key)).Nodup) : OldI (i + 1) D P (leastP D.now P) :=
  ⟨h.x, ok, kn, h.pp, h.now1, h.nowB, h.len, h.pp.oldest, h.lo⟩
end
theorem oldI_first {D : EpD} (he : D = (epZ (poolZ 64 10)).adv 0 landZ) : OldI 0 D [] 1 := by
  subst he
  refine ⟨epX_first 64 10, (epZ_ok _).adv rfl rfl (by decide), List.nodup_nil, ⟨rfl, fun x hx => absurd hx List.not_mem_nil, fun k v h => by simp at h, fun v hv => absurd hv List.not_mem_nil⟩, Nat.le_refl _, Nat.le_refl _, Nat.le_refl _, ⟨Int.le_refl _, fun x hx => absurd hx List.not_mem_nil, .inl rfl⟩, Int.le_refl _⟩
end Go.Proofs.Ytndojmpgadbefaa
