/- The reference's epochs, plain: its lists against the epochs' state. -/
import Derived.Test.YtndojmpgadbefaaEpKeP
set_option linter.unusedVariables false
set_option linter.unusedSimpArgs false
namespace Go.Proofs.Ytndojmpgadbefaa
open Go Go.RowKit Hv
set_option maxRecDepth 20000
structure EraE where
  region : Nat
  freed : Bool
  bytes : Nat
structure RefP (D : EpD) (E : List EraE) (P : List Int) (X : List NoteD) : Prop where
  len : E.length = D.now
  old : ∀ (i : Nat) (e : EraE), E[i]? = some e → i + 1 < D.lo → e.freed = true
  live : ∀ (i k : Nat) (e : EraE), E[i]? = some e → i + 1 = D.lo + k → e.freed = false ∧ ∃ r, D.eras[k]? = some r ∧ e.region = r.region ∧ e.bytes = r.bytes
  pp : PinsP D P
  had : ∀ x ∈ X, ∀ k : Nat, x.ep = D.lo + k → ∃ r, D.eras[k]? = some r ∧ lookE r.notes x = some ()
  notes : ∀ (k : Nat) (r : EraD) (x : NoteD), D.eras[k]? = some r → lookE r.notes x = some () → x ∈ X ∧ x.ep = D.lo + k
section
variable {D : EpD} {E : List EraE} {P : List Int} {X : List NoteD}
theorem RefP.pinned (h : RefP D E P X) {last : Nat} {pins : List (Ent Int Int) × Nat} {P' : List Int} (hp : PinsP (D.pinned last pins) P') : RefP (D.pinned last pins) E P' X :=
  ⟨h.len, h.old, h.live, hp, h.had, h.notes⟩
theorem RefP.adv (h : RefP D E P X) (ok : EpOk D) {i : Nat} {l : LandD} : RefP (D.adv i l) (E ++ [⟨i, false, 0⟩]) P X := by
  have hcnt := ok.cnt
  refine ⟨by rw [List.length_append, h.len]; rfl, fun j e he hj => ?_, fun j k e he hj => ?_, ⟨h.pp.last, h.pp.inn, h.pp.out, h.pp.pos⟩, fun x hx k hk => ?_, fun k r x hr hx => ?_⟩
  · by_cases hl : j < E.length
    · rw [List.getElem?_append_left hl] at he
      exact h.old j e he hj
    · have h1 : j + 1 < D.lo := hj
      have := h.len
      have h2 := (List.getElem?_eq_some_iff.1 he).1
      rw [List.length_append] at h2
      simp at h2
      have := ok.pos
      omega
  · have hj : j + 1 = D.lo + k := hj
    by_cases hl : j < E.length
    · rw [List.getElem?_append_left hl] at he
      obtain ⟨h1, r, h2, h3⟩ := h.live j k e he hj
      exact ⟨h1, r, (List.getElem?_append_left (List.getElem?_eq_some_iff.1 h2).1).trans h2, h3⟩
    · have h2 := (List.getElem?_eq_some_iff.1 he).1
      rw [List.length_append] at h2
      simp at h2
      have hje : j = E.length := by omega
      subst hje
      rw [List.getElem?_concat_length] at he
      injection he with he
      subst he
      have hk : k = D.eras.length := by have := h.len; omega
      subst hk
      exact ⟨rfl, _, List.getElem?_concat_length, rfl, rfl⟩
  · have hk : x.ep = D.lo + k := hk
    obtain ⟨r, h1, h2⟩ := h.had x hx k hk
    exact ⟨r, (List.getElem?_append_left (List.getElem?_eq_some_iff.1 h1).1).trans h1, h2⟩
  · have hr : (D.eras ++ [_])[k]? = some r := hr
    by_cases hl : k < D.eras.length
    · rw [List.getElem?_append_left hl] at hr
      exact h.notes k r x hr hx
    · have h2 := (List.getElem?_eq_some_iff.1 hr).1
      rw [List.length_append] at h2
      simp at h2
      have hke : k = D.eras.length := by omega
      subst hke
      rw [List.getElem?_concat_length] at hr
      injection hr with hr
      subst hr
      cases hx
theorem RefP.retired (h : RefP D E P X) {k : Nat} {r : EraD} {x : NoteD} {d2 : PoolD} {e : EraE} (hk : D.lo + k = D.now) (hr : D.eras[k]? = some r) (he : E[D.now - 1]? = some e) (hx : x.ep = D.now) (hnew : lookE r.notes x = none) (hlo : 1 ≤ D.lo) :
    RefP (D.retired d2 k r x) (E.set (D.now - 1) ⟨e.region, e.freed, e.bytes + x.len⟩) P (X ++ [x]) := by
  have hkl := (List.getElem?_eq_some_iff.1 hr).1
  have hel := (List.getElem?_eq_some_iff.1 he).1
  have hself := h.live (D.now - 1) k e he (by omega)
  obtain ⟨hf, r0, hr0, e1, e2⟩ := hself
  rw [hr] at hr0
  injection hr0 with hr0
  subst hr0
  refine ⟨by rw [List.length_set]; exact h.len, fun j e' he' hj => ?_, fun j k' e' he' hj => ?_, ⟨h.pp.last, h.pp.inn, h.pp.out, h.pp.pos⟩, fun y hy k' hk' => ?_, fun k' r' y hr' hy => ?_⟩
  · have hj : j + 1 < D.lo := hj
    rw [List.getElem?_set_ne (by omega)] at he'
    exact h.old j e' he' hj
  · have hj : j + 1 = D.lo + k' := hj
    show _ ∧ ∃ q, (D.eras.set k _)[k']? = some q ∧ _
    by_cases hjn : D.now - 1 = j
    · have hkk : k = k' := by omega
      subst hkk
      rw [← hjn, List.getElem?_set_self hel] at he'
      injection he' with he'
      subst he'
      exact ⟨hf, _, List.getElem?_set_self hkl, e1, by show e.bytes + x.len = r.bytes + x.len; rw [e2]⟩
    · rw [List.getElem?_set_ne hjn] at he'
      obtain ⟨h1, q, h2, h3⟩ := h.live j k' e' he' hj
      exact ⟨h1, q, (List.getElem?_set_ne (by omega)).trans h2, h3⟩
  · have hk' : y.ep = D.lo + k' := hk'
    show ∃ q, (D.eras.set k _)[k']? = some q ∧ _
    rcases List.mem_append.1 hy with hy | hy
    · obtain ⟨q, h1, h2⟩ := h.had y hy k' hk'
      by_cases hkk : k = k'
      · subst hkk
        rw [hr] at h1
        injection h1 with h1
        subst h1
        refine ⟨_, List.getElem?_set_self hkl, ?_⟩
        show lookE (putE r.notes r.nc x ()).1 y = _
        rw [lookE_put]
        split
        · rfl
        · exact h2
      · exact ⟨q, (List.getElem?_set_ne hkk).trans h1, h2⟩
    · rw [List.mem_singleton.1 hy] at hk' ⊢
      have hkk : k = k' := by omega
      subst hkk
      refine ⟨_, List.getElem?_set_self hkl, ?_⟩
      show lookE (putE r.notes r.nc x ()).1 x = _
      rw [lookE_put, if_pos rfl]
  · have hr' : (D.eras.set k _)[k']? = some r' := hr'
    show y ∈ X ++ [x] ∧ y.ep = D.lo + k'
    by_cases hkk : k = k'
    · subst hkk
      rw [List.getElem?_set_self hkl] at hr'
      injection hr' with hr'
      subst hr'
      have hy : lookE (putE r.notes r.nc x ()).1 y = some () := hy
      rw [lookE_put] at hy
      by_cases hyx : y = x
      · subst hyx
        exact ⟨List.mem_append_right _ (List.mem_singleton.2 rfl), by omega⟩
      · rw [if_neg hyx] at hy
        obtain ⟨q1, q2⟩ := h.notes k r y hr hy
        exact ⟨List.mem_append_left _ q1, q2⟩
    · rw [List.getElem?_set_ne hkk] at hr'
      obtain ⟨q1, q2⟩ := h.notes k' r' y hr' hy
      exact ⟨List.mem_append_left _ q1, q2⟩
theorem RefP.drop1 (h : RefP D E P X) {r : EraD} {rs : List EraD} {l : LandD} {e : EraE} (hr : D.eras = r :: rs) (hlo : 1 ≤ D.lo) (he : E[D.lo - 1]? = some e) : RefP (D.drop1 r l) (E.set (D.lo - 1) ⟨e.region, true, e.bytes⟩) P X := by
  have hel := (List.getElem?_eq_some_iff.1 he).1
  refine ⟨by rw [List.length_set]; exact h.len, fun j e' he' hj => ?_, fun j k' e' he' hj => ?_, ⟨h.pp.last, h.pp.inn, h.pp.out, h.pp.pos⟩, fun y hy k' hk' => ?_, fun k' r' y hr' hy => ?_⟩
  · have hj : j + 1 < D.lo + 1 := hj
    by_cases hjl : D.lo - 1 = j
    · rw [← hjl, List.getElem?_set_self hel] at he'
      injection he' with he'
      rw [← he']
    · rw [List.getElem?_set_ne hjl] at he'
      exact h.old j e' he' (by omega)
  · have hj : j + 1 = D.lo + 1 + k' := hj
    rw [List.getElem?_set_ne (by omega)] at he'
    obtain ⟨h1, q, h2, h3⟩ := h.live j (k' + 1) e' he' (by omega)
    refine ⟨h1, q, ?_, h3⟩
    show D.eras.tail[k']? = _
    rw [List.getElem?_tail]; exact h2
  · have hk' : y.ep = D.lo + 1 + k' := hk'
    obtain ⟨q, h1, h2⟩ := h.had y hy (k' + 1) (by omega)
    refine ⟨q, ?_, h2⟩
    show D.eras.tail[k']? = _
    rw [List.getElem?_tail]; exact h1
  · have hr' : D.eras.tail[k']? = some r' := hr'
    rw [List.getElem?_tail] at hr'
    obtain ⟨q1, q2⟩ := h.notes (k' + 1) r' y hr' hy
    exact ⟨q1, by show y.ep = D.lo + 1 + k'; omega⟩
end
theorem refP_first (s K : Nat) : RefP ((epZ (poolZ s K)).adv 0 landZ) [⟨0, false, 0⟩] [] [] := by
  have h0 : RefP (epZ (poolZ s K)) [] [] [] := ⟨rfl, fun i e h => by simp at h, fun i k e h => by simp at h, ⟨rfl, fun x hx => absurd hx List.not_mem_nil, fun k v h => by simp at h, fun v hv => absurd hv List.not_mem_nil⟩, fun x hx => absurd hx List.not_mem_nil, fun k r x h => absurd h (by show ([] : List EraD)[k]? ≠ some r; simp)⟩
  exact h0.adv (epZ_ok _)
end Go.Proofs.Ytndojmpgadbefaa
