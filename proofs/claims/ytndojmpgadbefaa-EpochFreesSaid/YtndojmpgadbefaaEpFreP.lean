/- EpochFrees, plain. -/
import Derived.Test.YtndojmpgadbefaaEpW
import Derived.Test.YtndojmpgadbefaaEpC
set_option linter.unusedVariables false
set_option linter.unusedSimpArgs false
namespace Go.Proofs.Ytndojmpgadbefaa
open Go Go.RowKit Hv
set_option maxRecDepth 20000
/-- Between the calls. -/
structure FreI (i : Nat) (D : EpD) (np : Nat) (G : List Bool) (X : List NoteD) : Prop where
  w : EpW D
  last : D.last = np
  npB : np ≤ i
  now1 : 1 ≤ D.now
  nowB : D.now ≤ i + 1
  gl : G.length = 200
  gin : ∀ x ∈ D.pins, ∃ k : Nat, x.key = (k : Int) ∧ 1 ≤ k ∧ k ≤ np ∧ G[k]? = some false
  gout : ∀ k : Nat, 1 ≤ k → k ≤ np → G[k]? = some false → ∃ x ∈ D.pins, x.key = (k : Int)
  gnew : ∀ k : Nat, np < k → k < 200 → G[k]? = some false
  xs : ∀ x ∈ X, x.ep ≤ D.now
  bytes : ∀ r ∈ D.eras, r.bytes ≤ 201 * i
  K : D.pool.slabs.length = 100
section
variable {i np : Nat} {D : EpD} {G : List Bool} {X : List NoteD}
theorem FreI.up (h : FreI i D np G X) : FreI (i + 1) D np G X :=
  ⟨h.w, h.last, Nat.le_succ_of_le h.npB, h.now1, Nat.le_succ_of_le h.nowB, h.gl, h.gin, h.gout, h.gnew, h.xs, fun r hr => by have := h.bytes r hr; omega, h.K⟩
theorem FreI.pin (h : FreI i D np G X) (hi : i < 150) (ok : EpOk (D.pinned (D.last + 1) (D.pins ++ [⟨((D.last + 1 : Nat) : Int), (D.now : Int), D.pc⟩], D.pc + 1))) : FreI (i + 1) (D.pinned (D.last + 1) (D.pins ++ [⟨((D.last + 1 : Nat) : Int), (D.now : Int), D.pc⟩], D.pc + 1)) (np + 1) G X := by
  refine ⟨h.w.pinned ok, by show D.last + 1 = _; rw [h.last], Nat.succ_le_succ h.npB, h.now1, Nat.le_succ_of_le h.nowB, h.gl, fun x hx => ?_, fun k h1 h2 h3 => ?_, fun k h1 h2 => h.gnew k (by omega) h2, h.xs, h.up.bytes, h.K⟩
  · have hx : x ∈ D.pins ++ [_] := hx
    rcases List.mem_append.1 hx with hx | hx
    · obtain ⟨k, a1, a2, a3, a4⟩ := h.gin x hx
      exact ⟨k, a1, a2, by omega, a4⟩
    · rw [List.mem_singleton.1 hx]
      refine ⟨np + 1, by rw [h.last], by omega, Nat.le_refl _, h.gnew _ (by omega) (by have := h.npB; omega)⟩
  · show ∃ x ∈ D.pins ++ [_], _
    by_cases hk : k ≤ np
    · obtain ⟨x, hx, e⟩ := h.gout k h1 hk h3
      exact ⟨x, List.mem_append_left _ hx, e⟩
    · exact ⟨_, List.mem_append_right _ (List.mem_singleton.2 rfl), by rw [show k = np + 1 by omega, h.last]⟩
theorem FreI.look (h : FreI i D np G X) (hi : i < 150) (kn : (D.pins.map (·.key)).Nodup) {k : Nat} (h1 : 1 ≤ k) (h2 : k ≤ np) : (G[k]? = some true ∧ lookE D.pins (k : Int) = none) ∨ (G[k]? = some false ∧ ∃ v, lookE D.pins (k : Int) = some v) := by
  obtain ⟨b, hb⟩ : ∃ b, G[k]? = some b := by
    by_cases hk : k < 200
    · exact ⟨_, List.getElem?_eq_getElem (by rw [h.gl]; exact hk)⟩
    · have := h.npB
      omega
  cases b with
  | true =>
    refine .inl ⟨hb, lookE_none.2 fun x hx e => ?_⟩
    obtain ⟨j, a1, _, _, a4⟩ := h.gin x hx
    have : j = k := by rw [e] at a1; omega
    rw [this, hb] at a4; cases a4
  | false =>
    obtain ⟨x, hx, e⟩ := h.gout k h1 h2 hb
    exact .inr ⟨hb, x.val, by rw [← e]; exact mem_lookE kn hx⟩
theorem FreI.unpin (h : FreI i D np G X) (kn : (D.pins.map (·.key)).Nodup) {k : Nat} (hk : k < 200) (h1 : 1 ≤ k) (h2 : k ≤ np) (ok : EpOk (D.pinned D.last (delE D.pins (k : Int), D.pc))) : FreI (i + 1) (D.pinned D.last (delE D.pins (k : Int), D.pc)) np (G.set k true) X := by
  have hmem : ∀ x, x ∈ delE D.pins (k : Int) ↔ x ∈ D.pins ∧ x.key ≠ (k : Int) := fun x => by
    rw [del_filter kn, List.mem_filter]
    simp
  refine ⟨h.w.pinned ok, h.last, Nat.le_succ_of_le h.npB, h.now1, Nat.le_succ_of_le h.nowB, by rw [List.length_set]; exact h.gl, fun x hx => ?_, fun j a1 a2 a3 => ?_, fun j a1 a2 => ?_, h.xs, h.up.bytes, h.K⟩
  · obtain ⟨b1, b2⟩ := (hmem x).1 hx
    obtain ⟨j, c1, c2, c3, c4⟩ := h.gin x b1
    exact ⟨j, c1, c2, c3, by rw [List.getElem?_set_ne (fun e => b2 (by rw [c1, e]))]; exact c4⟩
  · by_cases hj : k = j
    · subst hj
      rw [List.getElem?_set_self (by rw [h.gl]; exact hk)] at a3
      cases a3
    · rw [List.getElem?_set_ne hj] at a3
      obtain ⟨x, hx, e⟩ := h.gout j a1 a2 a3
      exact ⟨x, (hmem x).2 ⟨hx, by rw [e]; omega⟩, e⟩
  · rw [List.getElem?_set_ne (by omega)]; exact h.gnew j a1 a2
theorem FreI.adv (h : FreI i D np G X) {j : Nat} {l : LandD} (hl : D.pool.lands[j]? = some l) (hf : l.there = false) (hn : D.now < 1000000000) : FreI (i + 1) (D.adv j l) np G X :=
  ⟨h.w.adv hl hf hn, h.last, Nat.le_succ_of_le h.npB, Nat.succ_pos _, Nat.succ_le_succ h.nowB, h.gl, h.gin, h.gout, h.gnew, fun x hx => Nat.le_succ_of_le (h.xs x hx), fun r hr => by
    have hr : r ∈ D.eras ++ [_] := hr
    rcases List.mem_append.1 hr with hr | hr
    · exact h.up.bytes r hr
    · rw [List.mem_singleton.1 hr]; exact Nat.zero_le _, h.K⟩
theorem dropped_pool : ∀ (m : Nat) (D : EpD), (D.dropped m).pool.slabs.length = D.pool.slabs.length ∧ (D.dropped m).pool.taken.length = D.pool.taken.length
  | 0, D => ⟨rfl, rfl⟩
  | m + 1, D => by
    cases he : D.eras with
    | nil =>
      have : D.dropped (m + 1) = D := by show (match D.eras with | [] => D | r :: _ => _) = _; rw [he]
      rw [this]; exact ⟨rfl, rfl⟩
    | cons r rs =>
      have e : D.dropped (m + 1) = (D.drop1 r (D.pool.lands.getD r.region landZ)).dropped m := by show (match D.eras with | [] => D | r :: _ => _) = _; rw [he]
      obtain ⟨h1, h2⟩ := dropped_pool m (D.drop1 r (D.pool.lands.getD r.region landZ))
      obtain ⟨_, _, w3, w4⟩ := wiped_lands (D.pool.lands.getD r.region landZ).slabs D.pool
      rw [e]
      exact ⟨h1.trans w3, h2.trans w4⟩
theorem dropped_land : ∀ (m : Nat) (D : EpD) (j : Nat), (∀ r ∈ D.eras.take m, r.region ≠ j) → (D.dropped m).pool.lands[j]? = D.pool.lands[j]?
  | 0, D, j, _ => rfl
  | m + 1, D, j, h => by
    cases he : D.eras with
    | nil =>
      have : D.dropped (m + 1) = D := by show (match D.eras with | [] => D | r :: _ => _) = _; rw [he]
      rw [this]
    | cons r rs =>
      have e : D.dropped (m + 1) = (D.drop1 r (D.pool.lands.getD r.region landZ)).dropped m := by show (match D.eras with | [] => D | r :: _ => _) = _; rw [he]
      rw [he, List.take_succ_cons] at h
      have ht : (D.drop1 r (D.pool.lands.getD r.region landZ)).eras = rs := by show D.eras.tail = _; rw [he]; rfl
      rw [e, dropped_land m _ j (by rw [ht]; exact fun q hq => h q (List.mem_cons_of_mem _ hq))]
      show (D.pool.lands.set r.region _)[j]? = _
      rw [List.getElem?_set_ne (h r List.mem_cons_self)]
theorem FreI.collect (h : FreI i D np G X) {c : Nat} (hc : c < D.eras.length) : FreI (i + 1) (D.dropped c) np G X := by
  obtain ⟨d1, d2, d3, d4, d5, d6⟩ := dropped_is c D (Nat.le_of_lt hc)
  refine ⟨EpW.dropped c D hc h.w, by rw [d4]; exact h.last, Nat.le_succ_of_le h.npB, by rw [d3]; exact h.now1, by rw [d3]; exact Nat.le_succ_of_le h.nowB, h.gl, by rw [d5]; exact h.gin, by rw [d5]; exact h.gout, h.gnew, by rw [d3]; exact h.xs, fun r hr => ?_, by rw [(dropped_pool c D).1]; exact h.K⟩
  rw [d1] at hr
  exact h.up.bytes r (List.mem_of_mem_drop hr)
theorem FreI.retire (h : FreI i D np G X) (hi : i < 150) {k : Nat} {r : EraD} {l : LandD} {b : List UInt8} (hk : D.lo + k = D.now) (hr : D.eras[k]? = some r) (hl : D.pool.lands[r.region]? = some l) (ht : l.there = true) (hb : b.length ≤ 201) :
    l.slabs.length < 4096 ∧ r.bytes + b.length ≤ 1000000000 ∧ ((∃ er : Int, (er = 1 ∨ er = 5) ∧ allocD D.pool r.region l b.length = (D.pool, hand0, er)) ∨
      ∃ (d' : PoolD) (o s0 : Nat) (l' : LandD), allocD D.pool r.region l b.length = (d', handA r.region l.gen o b.length, 0) ∧ PieceOk d' r.region l' o b.length ∧ l'.gen = l.gen ∧ l'.slabs[o / d'.size]? = some s0 ∧ d'.lands = D.pool.lands.set r.region l' ∧
        lookE r.notes ⟨D.now, r.region, l.gen, o, b.length⟩ = none ∧ (PoolOk (d'.stored s0 (o % d'.size) b) → FreI (i + 1) (D.retired (d'.stored s0 (o % d'.size) b) k r ⟨D.now, r.region, l.gen, o, b.length⟩) np G (X ++ [⟨D.now, r.region, l.gen, o, b.length⟩]))) := by
  have hfew := h.w.sl.few h.w.pk hl
  have hrb := h.bytes r (List.mem_of_getElem? hr)
  have hbb : r.bytes + b.length ≤ 1000000000 := by omega
  rw [h.K] at hfew
  refine ⟨by omega, hbb, ?_⟩
  rcases h.w.retire hk hr hl ht hbb with hbad | ⟨d', o, s0, l', a1, a2, a3, a4, a5, a6, a7, a8⟩
  · exact .inl hbad
  · refine .inr ⟨d', o, s0, l', a1, a2, a3, a4, a5, a7, fun hpk => ⟨a8 _ hpk rfl, h.last, Nat.le_succ_of_le h.npB, h.now1, Nat.le_succ_of_le h.nowB, h.gl, h.gin, h.gout, h.gnew, fun x hx => ?_, fun q hq => ?_, ?_⟩⟩
    · rcases List.mem_append.1 hx with hx | hx
      · exact h.xs x hx
      · rw [List.mem_singleton.1 hx]; exact Nat.le_refl _
    · have hq : q ∈ D.eras.set k _ := hq
      rcases List.mem_or_eq_of_mem_set hq with hq | rfl
      · exact h.up.bytes q hq
      · show r.bytes + b.length ≤ _
        omega
    · show (d'.slabs.set s0 _).length = 100
      rw [List.length_set, a6]; exact h.K
/-- While all are let go. -/
structure FreU (k np : Nat) (D : EpD) (G : List Bool) : Prop where
  w : EpW D
  now1 : 1 ≤ D.now
  kept : ∀ x ∈ D.pins, ∃ j : Nat, x.key = (j : Int) ∧ k ≤ j ∧ j ≤ np ∧ G[j]? = some false
  all : ∀ j : Nat, k ≤ j → j ≤ np → G[j]? = some false → ∃ x ∈ D.pins, x.key = (j : Int)
theorem FreI.let (h : FreI i D np G X) : FreU 1 np D G := ⟨h.w, h.now1, fun x hx => by
  obtain ⟨k, a1, a2, a3, a4⟩ := h.gin x hx
  exact ⟨k, a1, a2, a3, a4⟩, fun j a1 a2 a3 => h.gout j a1 a2 a3⟩
theorem FreU.gone {k : Nat} (h : FreU k np D G) (hg : G[k]? = some true) : lookE D.pins (k : Int) = none ∧ FreU (k + 1) np D G := by
  refine ⟨lookE_none.2 fun x hx e => ?_, h.w, h.now1, fun x hx => ?_, fun j a1 a2 a3 => h.all j (by omega) a2 a3⟩
  · obtain ⟨j, a1, _, _, a4⟩ := h.kept x hx
    have : j = k := by rw [e] at a1; omega
    rw [this, hg] at a4; cases a4
  · obtain ⟨j, a1, a2, a3, a4⟩ := h.kept x hx
    refine ⟨j, a1, ?_, a3, a4⟩
    by_cases hj : j = k
    · rw [hj, hg] at a4; cases a4
    · omega
theorem FreU.found {k : Nat} (h : FreU k np D G) (kn : (D.pins.map (·.key)).Nodup) (hk : k ≤ np) (hg : G[k]? = some false) : ∃ v, lookE D.pins (k : Int) = some v ∧ (EpOk (D.pinned D.last (delE D.pins (k : Int), D.pc)) → FreU (k + 1) np (D.pinned D.last (delE D.pins (k : Int), D.pc)) G) := by
  obtain ⟨x, hx, e⟩ := h.all k (Nat.le_refl _) hk hg
  have hmem : ∀ x, x ∈ delE D.pins (k : Int) ↔ x ∈ D.pins ∧ x.key ≠ (k : Int) := fun x => by
    rw [del_filter kn, List.mem_filter]
    simp
  refine ⟨x.val, by rw [← e]; exact mem_lookE kn hx, fun ok => ⟨h.w.pinned ok, h.now1, fun y hy => ?_, fun j a1 a2 a3 => ?_⟩⟩
  · obtain ⟨b1, b2⟩ := (hmem y).1 hy
    obtain ⟨j, c1, c2, c3, c4⟩ := h.kept y b1
    refine ⟨j, c1, ?_, c3, c4⟩
    by_cases hj : j = k
    · rw [hj] at c1; exact absurd c1 b2
    · omega
  · obtain ⟨y, hy, ey⟩ := h.all j (by omega) a2 a3
    exact ⟨y, (hmem y).2 ⟨hy, by rw [ey]; omega⟩, ey⟩
theorem FreU.done {k : Nat} (h : FreU k np D G) (hk : np < k) : D.pins = [] := by
  cases hp : D.pins with
  | nil => rfl
  | cons x xs =>
    obtain ⟨j, _, a2, a3, _⟩ := h.kept x (by rw [hp]; exact List.mem_cons_self)
    omega
/-- All that was is freed. -/
theorem EpW.sweep (w : EpW D) {j : Nat} {l : LandD} (hl : D.pool.lands[j]? = some l) (hf : l.there = false) (hn : D.now < 1000000000) (hp : D.pins = []) (h1 : 1 ≤ D.now) :
    IsOldest (D.adv j l) ((D.now + 1 : Nat) : Int) ∧ ((D.adv j l).lo : Int) + (D.eras.length : Int) = ((D.now + 1 : Nat) : Int) ∧ EpW ((D.adv j l).dropped D.eras.length) ∧ ((D.adv j l).dropped D.eras.length).eras = [⟨j, [], 0, 0⟩] ∧ ((D.adv j l).dropped D.eras.length).now = D.now + 1 ∧ ((D.adv j l).dropped D.eras.length).lo = D.now + 1 ∧
      ((D.adv j l).dropped D.eras.length).kept = 0 ∧ ((D.adv j l).dropped D.eras.length).pool.lands[j]? = some ⟨true, l.gen + 1, [], 0⟩ ∧ idleN ((D.adv j l).dropped D.eras.length).pool.taken = D.pool.taken.length := by
  have hw := w.adv hl hf hn
  have hlen : (D.adv j l).eras.length = D.eras.length + 1 := by show (D.eras ++ [_]).length = _; rw [List.length_append]; rfl
  obtain ⟨d1, d2, d3, d4, d5, d6⟩ := dropped_is D.eras.length (D.adv j l) (by omega)
  have hw2 := EpW.dropped D.eras.length (D.adv j l) (by omega) hw
  have he : ((D.adv j l).dropped D.eras.length).eras = [⟨j, [], 0, 0⟩] := by
    rw [d1]
    show (D.eras ++ [_]).drop D.eras.length = _
    rw [List.drop_left]
  have hcnt := w.ok.cnt
  have hland : ((D.adv j l).dropped D.eras.length).pool.lands[j]? = some ⟨true, l.gen + 1, [], 0⟩ := by
    rw [dropped_land]
    · exact List.getElem?_set_self (List.getElem?_eq_some_iff.1 hl).1
    · intro r hr e
      have hr : r ∈ (D.eras ++ [_]).take D.eras.length := hr
      rw [List.take_left] at hr
      obtain ⟨k, h1, h2⟩ := w.ok.reg r hr
      rw [e, hl] at h1
      injection h1 with h1
      rw [← h1, hf] at h2; cases h2
  have hown : ((D.adv j l).dropped D.eras.length).pool.owned = [] := by
    unfold PoolD.owned
    rw [List.flatMap_eq_nil_iff]
    intro q hq
    cases hqt : q.there with
    | false => exact hw2.sl.emp q hq hqt
    | true =>
      obtain ⟨m, hm⟩ := List.mem_iff_getElem?.1 hq
      obtain ⟨r, hr, e⟩ := hw2.x.own m q hm hqt
      rw [he] at hr
      rw [List.mem_singleton.1 hr] at e
      have e : j = m := e
      rw [← e, hland] at hm
      injection hm with hm
      rw [← hm]
  refine ⟨⟨Int.le_refl _, fun x hx => ?_, .inl rfl⟩, ?_, hw2, he, d3, by rw [d2]; show D.lo + D.eras.length = _; exact hcnt, ?_, hland, ?_⟩
  · rw [show (D.adv j l).pins = [] from hp] at hx; cases hx
  · show (D.lo : Int) + _ = _
    omega
  · unfold EpD.kept; rw [he]; rfl
  · rw [hw2.sl.idle hown, (dropped_pool _ _).2]; rfl
theorem freI_first : FreI 0 ((epZ (poolZ 256 100)).adv 0 landZ) 0 (List.replicate 200 false) [] := by
  refine ⟨epW_first (by decide) (by decide), rfl, Nat.le_refl _, Nat.le_refl _, Nat.le_refl _, by simp, fun x hx => absurd hx List.not_mem_nil, fun k h1 h2 => by omega, fun k h1 h2 => ?_, fun x hx => absurd hx List.not_mem_nil, fun r hr => ?_, by show (List.replicate 100 _).length = _; simp⟩
  · rw [List.getElem?_replicate, if_pos h2]
  · have hr : r ∈ [_] := hr
    rw [List.mem_singleton.1 hr]; exact Nat.zero_le _
end
end Go.Proofs.Ytndojmpgadbefaa
