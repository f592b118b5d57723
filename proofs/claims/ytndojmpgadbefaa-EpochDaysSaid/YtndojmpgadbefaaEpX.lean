/- Epochs, plain: which regions are there, and that there is one more. -/
import Derived.Test.YtndojmpgadbefaaEpAges
set_option linter.unusedVariables false
set_option linter.unusedSimpArgs false
namespace Go.Proofs.Ytndojmpgadbefaa
open Go Go.RowKit Hv
set_option maxRecDepth 20000
/-- Whose the regions are, and how often each was made. -/
structure EpX (D : EpD) : Prop where
  gen : ∀ (i : Nat) (l : LandD), D.pool.lands[i]? = some l → l.gen ≤ D.now
  own : ∀ (i : Nat) (l : LandD), D.pool.lands[i]? = some l → l.there = true → ∃ r ∈ D.eras, r.region = i
theorem epX_first (s K : Nat) : EpX ((epZ (poolZ s K)).adv 0 landZ) := by
  have key : ∀ (i : Nat) (l : LandD), ((epZ (poolZ s K)).adv 0 landZ).pool.lands[i]? = some l → (i = 0 ∧ l = ⟨true, 1, [], 0⟩) ∨ l = landZ := fun i l h => by
    have h : ((List.replicate 256 landZ).set 0 ⟨true, 1, [], 0⟩)[i]? = some l := h
    by_cases hi : i = 0
    · subst hi
      rw [List.getElem?_set_self (by simp)] at h
      injection h with h
      exact .inl ⟨rfl, h.symm⟩
    · rw [List.getElem?_set_ne (Ne.symm hi)] at h
      exact .inr (List.eq_of_mem_replicate (List.mem_of_getElem? h))
  refine ⟨fun i l h => ?_, fun i l h ht => ?_⟩
  · rcases key i l h with ⟨_, rfl⟩ | rfl
    · exact Nat.le_refl _
    · exact Nat.zero_le _
  · rcases key i l h with ⟨rfl, rfl⟩ | rfl
    · exact ⟨⟨0, [], 0, 0⟩, List.mem_singleton.2 rfl, rfl⟩
    · cases ht
theorem EpX.adv {D : EpD} (h : EpX D) {i : Nat} {l : LandD} (hl : D.pool.lands[i]? = some l) : EpX (D.adv i l) := by
  have key : ∀ (j : Nat) (k : LandD), (D.adv i l).pool.lands[j]? = some k → (j = i ∧ k = ⟨true, l.gen + 1, [], 0⟩) ∨ (j ≠ i ∧ D.pool.lands[j]? = some k) := fun j k hk => by
    have hk : (D.pool.lands.set i ⟨true, l.gen + 1, [], 0⟩)[j]? = some k := hk
    by_cases hj : j = i
    · subst hj
      rw [List.getElem?_set_self (List.getElem?_eq_some_iff.1 hl).1] at hk
      injection hk with hk
      exact .inl ⟨rfl, hk.symm⟩
    · rw [List.getElem?_set_ne (Ne.symm hj)] at hk
      exact .inr ⟨hj, hk⟩
  refine ⟨fun j k hk => ?_, fun j k hk ht => ?_⟩
  · show k.gen ≤ D.now + 1
    rcases key j k hk with ⟨_, rfl⟩ | ⟨_, hk⟩
    · exact Nat.succ_le_succ (h.gen i l hl)
    · exact Nat.le_succ_of_le (h.gen j k hk)
  · show ∃ r ∈ D.eras ++ [_], _
    rcases key j k hk with ⟨rfl, rfl⟩ | ⟨_, hk⟩
    · exact ⟨_, List.mem_append_right _ (List.mem_singleton.2 rfl), rfl⟩
    · obtain ⟨r, hr, e⟩ := h.own j k hk ht
      exact ⟨r, List.mem_append_left _ hr, e⟩
theorem EpX.drop1 {D : EpD} (h : EpX D) {r : EraD} {rs : List EraD} {l : LandD} (hr : D.eras = r :: rs) (hl : D.pool.lands[r.region]? = some l) : EpX (D.drop1 r l) := by
  have key : ∀ (j : Nat) (k : LandD), (D.drop1 r l).pool.lands[j]? = some k → (j = r.region ∧ k = ⟨false, l.gen, [], 0⟩) ∨ (j ≠ r.region ∧ D.pool.lands[j]? = some k) := fun j k hk => by
    have hk : (D.pool.lands.set r.region ⟨false, l.gen, [], 0⟩)[j]? = some k := hk
    by_cases hj : j = r.region
    · subst hj
      rw [List.getElem?_set_self (List.getElem?_eq_some_iff.1 hl).1] at hk
      injection hk with hk
      exact .inl ⟨rfl, hk.symm⟩
    · rw [List.getElem?_set_ne (Ne.symm hj)] at hk
      exact .inr ⟨hj, hk⟩
  refine ⟨fun j k hk => ?_, fun j k hk ht => ?_⟩
  · show k.gen ≤ D.now
    rcases key j k hk with ⟨_, rfl⟩ | ⟨_, hk⟩
    · exact h.gen _ l hl
    · exact h.gen j k hk
  · show ∃ r' ∈ D.eras.tail, _
    rcases key j k hk with ⟨rfl, rfl⟩ | ⟨hj, hk⟩
    · cases ht
    · obtain ⟨r', hr', e⟩ := h.own j k hk ht
      rw [hr] at hr' ⊢
      rcases List.mem_cons.1 hr' with rfl | hr'
      · exact absurd e.symm hj
      · exact ⟨r', hr', e⟩
theorem dropped_ok : ∀ (m : Nat) (D : EpD), m < D.eras.length → EpOk D → EpX D → EpOk (D.dropped m) ∧ EpX (D.dropped m)
  | 0, D, _, ok, x => ⟨ok, x⟩
  | m + 1, D, h, ok, x => by
    obtain ⟨r, r2, rs, he⟩ : ∃ r r2 rs, D.eras = r :: r2 :: rs := by
      match hD : D.eras with
      | [] => rw [hD] at h; exact absurd h (by simp)
      | [a] => rw [hD] at h; exact absurd h (by simp)
      | a :: b :: c => exact ⟨a, b, c, rfl⟩
    obtain ⟨l, hl, _⟩ := ok.reg r (by rw [he]; exact List.mem_cons_self)
    have hg : D.pool.lands.getD r.region landZ = l := by rw [List.getD_eq_getElem?_getD, hl]; rfl
    have e : D.dropped (m + 1) = (D.drop1 r l).dropped m := by
      show (match D.eras with | [] => D | r :: _ => _) = _
      rw [he]; simp only [hg]
    rw [e]
    refine dropped_ok m _ ?_ (ok.drop1 he hl) (x.drop1 he hl)
    show m < D.eras.tail.length
    rw [List.length_tail]; omega
/-- The first one that isn't there. -/
theorem first_free : ∀ (ls : List LandD), (∃ l ∈ ls, l.there = false) → ∃ (i : Nat) (l : LandD), ls[i]? = some l ∧ l.there = false ∧ ∀ (j : Nat) (k : LandD), j < i → ls[j]? = some k → k.there = true
  | [], h => by obtain ⟨l, hl, _⟩ := h; cases hl
  | a :: ls, h => by
    cases ha : a.there with
    | false => exact ⟨0, a, rfl, ha, fun j k hj => absurd hj (Nat.not_lt_zero _)⟩
    | true =>
      obtain ⟨i, l, h1, h2, h3⟩ := first_free ls (by
        obtain ⟨l, hl, hf⟩ := h
        rcases List.mem_cons.1 hl with rfl | hl
        · rw [ha] at hf; cases hf
        · exact ⟨l, hl, hf⟩)
      refine ⟨i + 1, l, h1, h2, fun j k hj hk => ?_⟩
      cases j with
      | zero =>
        have hk : some a = some k := hk
        injection hk with hk
        rw [← hk]; exact ha
      | succ j => exact h3 j k (by omega) hk
theorem EpX.free {D : EpD} (h : EpX D) (ll : D.pool.lands.length = 256) (hlen : D.eras.length < 256) : ∃ (i : Nat) (l : LandD), D.pool.lands[i]? = some l ∧ l.there = false ∧ (∀ (j : Nat) (k : LandD), j < i → D.pool.lands[j]? = some k → k.there = true) ∧ l.gen ≤ D.now := by
  by_cases hex : ∃ l ∈ D.pool.lands, l.there = false
  · obtain ⟨i, l, h1, h2, h3⟩ := first_free _ hex
    exact ⟨i, l, h1, h2, h3, h.gen i l h1⟩
  · exfalso
    have := len_le (a := List.range 256) (b := D.eras.map (·.region)) List.nodup_range fun i hi => by
      have hi := List.mem_range.1 hi
      obtain ⟨l, hl⟩ : ∃ l, D.pool.lands[i]? = some l := ⟨_, List.getElem?_eq_getElem (by rw [ll]; exact hi)⟩
      have ht : l.there = true := by
        cases hlt : l.there with
        | true => rfl
        | false => exact absurd ⟨l, List.mem_of_getElem? hl, hlt⟩ hex
      obtain ⟨r, hr, e⟩ := h.own i l hl ht
      exact List.mem_map.2 ⟨r, hr, e⟩
    rw [List.length_range, List.length_map] at this
    omega
theorem EpOk.pinsFew {D : EpD} (ok : EpOk D) (hn : (D.pins.map (·.key)).Nodup) : D.pins.length ≤ D.last := by
  have := len_le (a := D.pins.map (·.key)) (b := (List.range D.last).map fun j => ((j + 1 : Nat) : Int)) hn fun k hk => by
    obtain ⟨x, hx, rfl⟩ := List.mem_map.1 hk
    have h1 := ok.pinK x hx
    exact List.mem_map.2 ⟨(x.key - 1).toNat, List.mem_range.2 (by omega), by omega⟩
  rwa [List.length_map, List.length_map, List.length_range] at this
/-- The pins as a law keeps them: of each its epoch, or 0. -/
structure PinsP (D : EpD) (P : List Int) : Prop where
  last : D.last = P.length
  inn : ∀ x ∈ D.pins, ∃ k : Nat, P[k]? = some x.val ∧ x.key = ((k + 1 : Nat) : Int) ∧ 0 < x.val
  out : ∀ (k : Nat) (v : Int), P[k]? = some v → 0 < v → ∃ x ∈ D.pins, x.key = ((k + 1 : Nat) : Int) ∧ x.val = v
  pos : ∀ v ∈ P, 0 ≤ v
/-- The least of those that are there. -/
def leastP (now : Int) (P : List Int) : Int := P.foldl (fun z v => if 0 < v then (if v < z then v else z) else z) now
theorem leastP_snoc (now : Int) (P : List Int) (v : Int) : leastP now (P ++ [v]) = if 0 < v then (if v < leastP now P then v else leastP now P) else leastP now P := by
  unfold leastP; rw [List.foldl_append]; rfl
theorem leastP_is : ∀ (P : List Int) (now : Int), leastP now P ≤ now ∧ (∀ v ∈ P, 0 < v → leastP now P ≤ v) ∧ (leastP now P = now ∨ ∃ v ∈ P, 0 < v ∧ leastP now P = v)
  | [], now => ⟨Int.le_refl _, fun v hv => absurd hv List.not_mem_nil, .inl rfl⟩
  | a :: P, now => by
    obtain ⟨h1, h2, h3⟩ := leastP_is P (if 0 < a then (if a < now then a else now) else now)
    have e : leastP now (a :: P) = leastP (if 0 < a then (if a < now then a else now) else now) P := rfl
    rw [e]
    by_cases ha : 0 < a
    · simp only [ha, if_true] at h1 h2 h3 ⊢
      by_cases hl : a < now
      · simp only [hl, if_true] at h1 h2 h3 ⊢
        refine ⟨by omega, fun v hv hp => ?_, ?_⟩
        · rcases List.mem_cons.1 hv with rfl | hv
          · exact h1
          · exact h2 v hv hp
        · rcases h3 with h3 | ⟨v, hv, hp, h3⟩
          · exact .inr ⟨a, List.mem_cons_self, ha, h3⟩
          · exact .inr ⟨v, List.mem_cons_of_mem _ hv, hp, h3⟩
      · simp only [hl, if_false] at h1 h2 h3 ⊢
        refine ⟨h1, fun v hv hp => ?_, ?_⟩
        · rcases List.mem_cons.1 hv with rfl | hv
          · omega
          · exact h2 v hv hp
        · rcases h3 with h3 | ⟨v, hv, hp, h3⟩
          · exact .inl h3
          · exact .inr ⟨v, List.mem_cons_of_mem _ hv, hp, h3⟩
    · simp only [ha, if_false] at h1 h2 h3 ⊢
      refine ⟨h1, fun v hv hp => ?_, ?_⟩
      · rcases List.mem_cons.1 hv with rfl | hv
        · exact absurd hp ha
        · exact h2 v hv hp
      · rcases h3 with h3 | ⟨v, hv, hp, h3⟩
        · exact .inl h3
        · exact .inr ⟨v, List.mem_cons_of_mem _ hv, hp, h3⟩
theorem PinsP.oldest {D : EpD} {P : List Int} (h : PinsP D P) : IsOldest D (leastP D.now P) := by
  obtain ⟨h1, h2, h3⟩ := leastP_is P D.now
  refine ⟨h1, fun x hx => ?_, ?_⟩
  · obtain ⟨k, hk, _, hp⟩ := h.inn x hx
    exact h2 x.val (List.mem_of_getElem? hk) hp
  · rcases h3 with h3 | ⟨v, hv, hp, h3⟩
    · exact .inl h3
    · obtain ⟨k, hk⟩ := List.mem_iff_getElem?.1 hv
      obtain ⟨x, hx, _, hxv⟩ := h.out k v hk hp
      exact .inr ⟨x, hx, by rw [h3, hxv]⟩
theorem PinsP.pin {D : EpD} {P : List Int} (h : PinsP D P) (hnow : 1 ≤ D.now) : PinsP (D.pinned (D.last + 1) (D.pins ++ [⟨((D.last + 1 : Nat) : Int), (D.now : Int), D.pc⟩], D.pc + 1)) (P ++ [(D.now : Int)]) := by
  refine ⟨by show D.last + 1 = _; rw [List.length_append, h.last]; rfl, fun x hx => ?_, fun k v hk hp => ?_, fun v hv => ?_⟩
  · have hx : x ∈ D.pins ++ [_] := hx
    rcases List.mem_append.1 hx with hx | hx
    · obtain ⟨k, hk, h1, h2⟩ := h.inn x hx
      exact ⟨k, by rw [List.getElem?_append_left (List.getElem?_eq_some_iff.1 hk).1]; exact hk, h1, h2⟩
    · rw [List.mem_singleton.1 hx]
      exact ⟨P.length, List.getElem?_concat_length, by rw [h.last], by show (0 : Int) < (D.now : Int); omega⟩
  · show ∃ x ∈ D.pins ++ [_], _
    by_cases hkl : k < P.length
    · rw [List.getElem?_append_left hkl] at hk
      obtain ⟨x, hx, h1, h2⟩ := h.out k v hk hp
      exact ⟨x, List.mem_append_left _ hx, h1, h2⟩
    · have hkl2 := (List.getElem?_eq_some_iff.1 hk).1
      rw [List.length_append] at hkl2
      have hke : k = P.length := by simp at hkl2; omega
      rw [hke, List.getElem?_concat_length] at hk
      injection hk with hk
      exact ⟨_, List.mem_append_right _ (List.mem_singleton.2 rfl), by rw [hke, ← h.last], hk⟩
  · rcases List.mem_append.1 hv with hv | hv
    · exact h.pos v hv
    · rw [List.mem_singleton.1 hv]; omega
theorem PinsP.unpin {D : EpD} {P : List Int} (h : PinsP D P) (hn : (D.pins.map (·.key)).Nodup) {k : Nat} (hk : k < P.length) : PinsP (D.pinned D.last (delE D.pins ((k + 1 : Nat) : Int), D.pc)) (P.set k 0) := by
  have hmem : ∀ x, x ∈ delE D.pins ((k + 1 : Nat) : Int) ↔ x ∈ D.pins ∧ x.key ≠ ((k + 1 : Nat) : Int) := fun x => by
    rw [del_filter hn, List.mem_filter]
    simp
  refine ⟨by show D.last = _; rw [List.length_set]; exact h.last, fun x hx => ?_, fun j v hj hp => ?_, fun v hv => ?_⟩
  · obtain ⟨hx1, hx2⟩ := (hmem x).1 hx
    obtain ⟨j, hj, h1, h2⟩ := h.inn x hx1
    have hne : k ≠ j := fun e => hx2 (by rw [h1, e])
    exact ⟨j, by rw [List.getElem?_set_ne hne]; exact hj, h1, h2⟩
  · by_cases hjk : k = j
    · subst hjk
      rw [List.getElem?_set_self hk] at hj
      injection hj with hj
      omega
    · rw [List.getElem?_set_ne hjk] at hj
      obtain ⟨x, hx, h1, h2⟩ := h.out j v hj hp
      exact ⟨x, (hmem x).2 ⟨hx, by rw [h1]; omega⟩, h1, h2⟩
  · rcases List.mem_or_eq_of_mem_set hv with hv | rfl
    · exact h.pos v hv
    · exact Int.le_refl _
theorem PinsP.gone {D : EpD} {P : List Int} (h : PinsP D P) {k : Nat} (hk : P[k]? = some 0) : lookE D.pins ((k + 1 : Nat) : Int) = none := lookE_none.2 fun x hx e => by
  obtain ⟨j, hj, h1, h2⟩ := h.inn x hx
  have : j = k := by rw [e] at h1; omega
  subst this
  rw [hk] at hj
  injection hj with hj
  omega
theorem PinsP.found {D : EpD} {P : List Int} (h : PinsP D P) (hn : (D.pins.map (·.key)).Nodup) {k : Nat} {v : Int} (hk : P[k]? = some v) (hv : 0 < v) : lookE D.pins ((k + 1 : Nat) : Int) = some v := by
  obtain ⟨x, hx, h1, h2⟩ := h.out k v hk hv
  rw [← h1, ← h2]
  exact mem_lookE hn hx
end Go.Proofs.Ytndojmpgadbefaa
