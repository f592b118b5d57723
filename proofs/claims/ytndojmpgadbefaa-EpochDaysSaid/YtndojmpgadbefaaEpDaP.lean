/- EpochDays, plain. -/
import Derived.Test.YtndojmpgadbefaaEpGn
set_option linter.unusedVariables false
set_option linter.unusedSimpArgs false
namespace Go.Proofs.Ytndojmpgadbefaa
open Go Go.RowKit Hv
set_option maxRecDepth 20000
structure DayP (i : Nat) (D : EpD) (E : List EraE) (P : List Int) (X : List NoteD) : Prop where
  w : EpW D
  r : RefP D E P X
  now1 : 1 ≤ D.now
  nowB : D.now ≤ i + 1
  pl : P.length ≤ i
  xl : X.length ≤ i
  lo : (D.lo : Int) ≤ leastP D.now P
  kept : ∀ x ∈ X, D.lo ≤ x.ep → ∃ t, KeptN D x t
  xb : ∀ x ∈ X, x.ep ≤ 1000000000 ∧ x.off ≤ 1000000000 ∧ x.len ≤ 1000000000
  bytes : ∀ r ∈ D.eras, r.bytes ≤ 64 * i
  K : D.pool.slabs.length ≤ 9
  sz : D.pool.size = 64
section
variable {i : Nat} {D : EpD} {E : List EraE} {P : List Int} {X : List NoteD}
theorem DayP.up (h : DayP i D E P X) : DayP (i + 1) D E P X :=
  ⟨h.w, h.r, h.now1, Nat.le_succ_of_le h.nowB, Nat.le_succ_of_le h.pl, Nat.le_succ_of_le h.xl, h.lo, h.kept, h.xb, fun r hr => by have := h.bytes r hr; omega, h.K, h.sz⟩
theorem leastP_ge {now now' : Int} {P P' : List Int} {z : Int} (hz : z ≤ now') (hp : ∀ v ∈ P', 0 < v → z ≤ v) : z ≤ leastP now' P' := by
  rcases (leastP_is P' now').2.2 with e | ⟨v, hv, h0, e⟩
  · rw [e]; exact hz
  · rw [e]; exact hp v hv h0
theorem DayP.pin (h : DayP i D E P X) (ok : EpOk (D.pinned (D.last + 1) (D.pins ++ [⟨((D.last + 1 : Nat) : Int), (D.now : Int), D.pc⟩], D.pc + 1))) : DayP (i + 1) (D.pinned (D.last + 1) (D.pins ++ [⟨((D.last + 1 : Nat) : Int), (D.now : Int), D.pc⟩], D.pc + 1)) E (P ++ [(D.now : Int)]) X := by
  obtain ⟨l1, l2, l3⟩ := leastP_is P D.now
  refine ⟨h.w.pinned ok, h.r.pinned (h.r.pp.pin h.now1), h.now1, Nat.le_succ_of_le h.nowB, by rw [List.length_append]; exact Nat.succ_le_succ h.pl, Nat.le_succ_of_le h.xl, ?_, h.kept, h.xb, h.up.bytes, h.K, h.sz⟩
  show (D.lo : Int) ≤ leastP D.now (P ++ [(D.now : Int)])
  have := h.lo
  refine leastP_ge (now := D.now) (P := P) (by omega) fun v hv h0 => ?_
  rcases List.mem_append.1 hv with hv | hv
  · have := l2 v hv h0; omega
  · rw [List.mem_singleton.1 hv]; omega
theorem DayP.unpin (h : DayP i D E P X) (kn : (D.pins.map (·.key)).Nodup) {k : Nat} (hk : k < P.length) (ok : EpOk (D.pinned D.last (delE D.pins ((k + 1 : Nat) : Int), D.pc))) : DayP (i + 1) (D.pinned D.last (delE D.pins ((k + 1 : Nat) : Int), D.pc)) E (P.set k 0) X := by
  obtain ⟨l1, l2, l3⟩ := leastP_is P D.now
  refine ⟨h.w.pinned ok, h.r.pinned (h.r.pp.unpin kn hk), h.now1, Nat.le_succ_of_le h.nowB, by rw [List.length_set]; exact Nat.le_succ_of_le h.pl, Nat.le_succ_of_le h.xl, ?_, h.kept, h.xb, h.up.bytes, h.K, h.sz⟩
  show (D.lo : Int) ≤ leastP D.now (P.set k 0)
  have := h.lo
  refine leastP_ge (now := D.now) (P := P) (by omega) fun v hv h0 => ?_
  rcases List.mem_or_eq_of_mem_set hv with hv | rfl
  · have := l2 v hv h0; omega
  · omega
theorem DayP.adv (h : DayP i D E P X) {j : Nat} {l : LandD} (hl : D.pool.lands[j]? = some l) (hf : l.there = false) (hn : D.now < 1000000000) : DayP (i + 1) (D.adv j l) (E ++ [⟨j, false, 0⟩]) P X := by
  obtain ⟨l1, l2, l3⟩ := leastP_is P D.now
  refine ⟨h.w.adv hl hf hn, h.r.adv h.w.ok, Nat.succ_pos _, Nat.succ_le_succ h.nowB, Nat.le_succ_of_le h.pl, Nat.le_succ_of_le h.xl, ?_, fun x hx hx2 => ?_, h.xb, fun r hr => ?_, h.K, h.sz⟩
  · show (D.lo : Int) ≤ leastP ((D.now + 1 : Nat) : Int) P
    have := h.lo
    exact leastP_ge (now := D.now) (P := P) (by omega) fun v hv h0 => by have := l2 v hv h0; omega
  · obtain ⟨t, ht⟩ := h.kept x hx hx2
    exact ⟨t, ht.adv hl hf⟩
  · have hr : r ∈ D.eras ++ [_] := hr
    rcases List.mem_append.1 hr with hr | hr
    · exact h.up.bytes r hr
    · rw [List.mem_singleton.1 hr]; exact Nat.zero_le _
theorem DayP.cut (h : DayP i D E P X) : ∃ c : Nat, (D.lo : Int) + c = leastP D.now P ∧ c < D.eras.length ∧ 1 ≤ leastP D.now P := by
  have h1 := h.lo
  have h2 := (leastP_is P D.now).1
  have h3 := h.w.ok.cnt
  have h4 := h.w.ok.pos.1
  exact ⟨(leastP D.now P - D.lo).toNat, by omega, by omega, by omega⟩
theorem DayP.collect (h : DayP i D E P X) {c : Nat} {E' : List EraE} (hc : (D.lo : Int) + c = leastP D.now P) (hcl : c < D.eras.length) (hr : RefP (D.dropped c) E' P X) : DayP (i + 1) (D.dropped c) E' P X := by
  obtain ⟨d1, d2, d3, d4, d5, d6⟩ := dropped_is c D (Nat.le_of_lt hcl)
  obtain ⟨p1, p2⟩ := dropped_poolK c D
  refine ⟨EpW.dropped c D hcl h.w, hr, by rw [d3]; exact h.now1, by rw [d3]; exact Nat.le_succ_of_le h.nowB, Nat.le_succ_of_le h.pl, Nat.le_succ_of_le h.xl, by rw [d2, d3]; omega, fun x hx hx2 => ?_, h.xb, fun r hr => ?_, by rw [p1]; exact h.K, by rw [p2]; exact h.sz⟩
  · rw [d2] at hx2
    obtain ⟨t, ht⟩ := h.kept x hx (by omega)
    exact ⟨t, KeptN.dropped c D hcl h.w ht hx2⟩
  · rw [d1] at hr
    exact h.up.bytes r (List.mem_of_mem_drop hr)
theorem DayP.last (h : DayP i D E P X) : ∃ (k : Nat) (r : EraD) (l : LandD) (e : EraE), D.lo + k = D.now ∧ D.eras[k]? = some r ∧ D.pool.lands[r.region]? = some l ∧ l.there = true ∧ E ≠ [] ∧ E[E.length - 1]? = some e ∧ e.region = r.region ∧ e.bytes = r.bytes ∧ l.slabs.length < 4096 ∧ e.bytes ≤ 64 * i := by
  have hcnt := h.w.ok.cnt
  have hlo := h.w.ok.pos.1
  have hpos : 0 < D.eras.length := by
    rcases h.w.ok.pos.2 with h0 | h0
    · have := h.now1; omega
    · exact List.length_pos_iff.2 h0
  obtain ⟨k, hk⟩ : ∃ k, D.lo + k = D.now := ⟨D.now - D.lo, by omega⟩
  obtain ⟨r, hr⟩ : ∃ r, D.eras[k]? = some r := ⟨_, List.getElem?_eq_getElem (by omega)⟩
  obtain ⟨l, hl, ht⟩ := h.w.ok.reg r (List.mem_of_getElem? hr)
  have hEl := h.r.len
  have hn1 := h.now1
  obtain ⟨e, he⟩ : ∃ e, E[E.length - 1]? = some e := ⟨_, List.getElem?_eq_getElem (by omega)⟩
  obtain ⟨_, r', hr', g1, g2⟩ := h.r.live (E.length - 1) k e he (by omega)
  rw [hr] at hr'
  injection hr' with hr'
  subst hr'
  have hfew := h.w.sl.few h.w.pk hl
  have := h.K
  exact ⟨k, r, l, e, hk, hr, hl, ht, fun q => by rw [q] at hEl; simp at hEl; omega, he, g1, g2, by omega, by rw [g2]; exact h.bytes r (List.mem_of_getElem? hr)⟩
theorem DayP.retire (h : DayP i D E P X) (hi : i < 150) {k : Nat} {r : EraD} {l : LandD} {e : EraE} {b : List UInt8} (hk : D.lo + k = D.now) (hr : D.eras[k]? = some r) (hl : D.pool.lands[r.region]? = some l) (ht : l.there = true) (he : E[E.length - 1]? = some e) :
    (∃ er : Int, (er = 1 ∨ er = 5) ∧ allocD D.pool r.region l b.length = (D.pool, hand0, er)) ∨
      (b.length ≤ 64 ∧ ∃ (d' : PoolD) (o s0 : Nat) (l' : LandD), allocD D.pool r.region l b.length = (d', handA r.region l.gen o b.length, 0) ∧ PieceOk d' r.region l' o b.length ∧ l'.gen = l.gen ∧ l'.slabs[o / d'.size]? = some s0 ∧ d'.lands = D.pool.lands.set r.region l' ∧
        lookE r.notes ⟨D.now, r.region, l.gen, o, b.length⟩ = none ∧ (PoolOk (d'.stored s0 (o % d'.size) b) → DayP (i + 1) (D.retired (d'.stored s0 (o % d'.size) b) k r ⟨D.now, r.region, l.gen, o, b.length⟩) (E.set (E.length - 1) ⟨e.region, e.freed, e.bytes + b.length⟩) P (X ++ [⟨D.now, r.region, l.gen, o, b.length⟩]))) := by
  by_cases hb : b.length < 1 ∨ D.pool.size < b.length
  · exact .inl ⟨1, .inl rfl, by unfold allocD; rw [if_pos hb]⟩
  · have hsz := h.sz
    have hrb := h.bytes r (List.mem_of_getElem? hr)
    have hbl : b.length ≤ 64 := by omega
    rcases h.w.retireK (b := b) hk hr hl ht (by omega) (by omega) (by omega) with hbad | ⟨d', o, s0, l', a1, a2, a3, a4, a5, a6, a6b, a7, a8⟩
    · exact .inl ⟨5, .inr rfl, hbad⟩
    · refine .inr ⟨hbl, d', o, s0, l', a1, a2, a3, a4, a5, a7, fun hpk => ?_⟩
      obtain ⟨c1, c2, c3⟩ := a8 _ hpk rfl
      have hEl := h.r.len
      have hnB := h.nowB
      have hfits := a2.fits
      have hlf : l'.fill ≤ 4096 * 65536 := by
        have hat : (d'.stored s0 (o % d'.size) b).lands[r.region]? = some l' := a2.at'
        obtain ⟨q1, q2, q3, _⟩ := hpk.ls l' (List.mem_of_getElem? hat)
        have hss := hpk.sz.2
        exact Nat.le_trans q3 (Nat.mul_le_mul q1 hss)
      refine ⟨c1, ?_, h.now1, Nat.le_succ_of_le h.nowB, Nat.le_succ_of_le h.pl, by rw [List.length_append]; exact Nat.succ_le_succ h.xl, h.lo, fun x hx hx2 => ?_, fun x hx => ?_, fun q hq => ?_, ?_, a6b.trans h.sz⟩
      · rw [hEl] at he ⊢
        exact h.r.retired hk hr he rfl a7 h.w.ok.pos.1
      · rcases List.mem_append.1 hx with hx | hx
        · obtain ⟨t, ht⟩ := h.kept x hx hx2
          exact ⟨t, c3 x t ht⟩
        · rw [List.mem_singleton.1 hx]; exact ⟨b, c2⟩
      · rcases List.mem_append.1 hx with hx | hx
        · exact h.xb x hx
        · rw [List.mem_singleton.1 hx]
          dsimp only
          omega
      · have hq : q ∈ D.eras.set k _ := hq
        rcases List.mem_or_eq_of_mem_set hq with hq | rfl
        · exact h.up.bytes q hq
        · show r.bytes + b.length ≤ _
          omega
      · show (d'.slabs.set s0 _).length ≤ 9
        rw [List.length_set, a6]; exact h.K
theorem PinsP.look {D : EpD} {P : List Int} (h : PinsP D P) (kn : (D.pins.map (·.key)).Nodup) (z : Int) : (lookE D.pins z = none ∧ (z < 1 ∨ (P.length : Int) < z ∨ ∃ k : Nat, z = ((k + 1 : Nat) : Int) ∧ P[k]? = some 0)) ∨ ∃ (k : Nat) (v : Int), z = ((k + 1 : Nat) : Int) ∧ P[k]? = some v ∧ v ≠ 0 ∧ lookE D.pins ((k + 1 : Nat) : Int) = some v := by
  by_cases h1 : z < 1
  · refine .inl ⟨lookE_none.2 fun x hx e => ?_, .inl h1⟩
    obtain ⟨k, _, h3, _⟩ := h.inn x hx
    omega
  · by_cases h2 : (P.length : Int) < z
    · refine .inl ⟨lookE_none.2 fun x hx e => ?_, .inr (.inl h2)⟩
      obtain ⟨k, h4, h3, _⟩ := h.inn x hx
      have := (List.getElem?_eq_some_iff.1 h4).1
      omega
    · obtain ⟨k, hk⟩ : ∃ k : Nat, z = ((k + 1 : Nat) : Int) := ⟨(z - 1).toNat, by omega⟩
      obtain ⟨v, hv⟩ : ∃ v, P[k]? = some v := ⟨_, List.getElem?_eq_getElem (by omega)⟩
      by_cases h0 : v = 0
      · subst h0
        exact .inl ⟨by rw [hk]; exact h.gone hv, .inr (.inr ⟨k, hk, hv⟩)⟩
      · have := h.pos v (List.mem_of_getElem? hv)
        exact .inr ⟨k, v, hk, hv, h0, h.found kn hv (by omega)⟩
end
theorem dayP_first {K : Nat} (hK : K ≤ 9) : DayP 0 ((epZ (poolZ 64 K)).adv 0 landZ) [⟨0, false, 0⟩] [] [] := by
  refine ⟨epW_first (by decide) (by omega), refP_first 64 K, Nat.le_refl _, Nat.le_refl _, Nat.le_refl _, Nat.le_refl _, by show (1 : Int) ≤ leastP 1 []; decide, fun x hx => absurd hx List.not_mem_nil, fun x hx => absurd hx List.not_mem_nil, fun r hr => ?_, by show (List.replicate K _).length ≤ 9; rw [List.length_replicate]; exact hK, rfl⟩
  have hr : r ∈ [_] := hr
  rw [List.mem_singleton.1 hr]; exact Nat.zero_le _
end Go.Proofs.Ytndojmpgadbefaa
