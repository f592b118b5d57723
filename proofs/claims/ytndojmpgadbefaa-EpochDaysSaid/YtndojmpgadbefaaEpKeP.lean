/- EpochKeeps, plain: what was retired stays as it was. -/
import Derived.Test.YtndojmpgadbefaaEpW
set_option linter.unusedVariables false
set_option linter.unusedSimpArgs false
namespace Go.Proofs.Ytndojmpgadbefaa
open Go Go.RowKit Hv
set_option maxRecDepth 20000
/-- A note that is loaded as these bytes. -/
def KeptN (D : EpD) (x : NoteD) (t : List UInt8) : Prop := ∃ (k : Nat) (r : EraD) (l : LandD) (s : Nat), x.ep = D.lo + k ∧ D.eras[k]? = some r ∧ lookE r.notes x = some () ∧ r.region = x.reg ∧ PieceOk D.pool x.reg l x.off x.len ∧ l.gen = x.gen ∧ l.slabs[x.off / D.pool.size]? = some s ∧ D.pool.bytesAt s (x.off % D.pool.size) x.len = t
theorem SlabP.one {d : PoolD} (h : SlabP d) {i : Nat} {l : LandD} (hl : d.lands[i]? = some l) : l.slabs.Nodup := by
  obtain ⟨A, B, h1, _⟩ := flat_set (l' := l) hl
  have hnd := h.nd
  rw [show d.owned = A ++ (l.slabs ++ B) from h1] at hnd
  exact (List.nodup_append.1 (List.nodup_append.1 hnd).2.1).1
theorem SlabP.disj {d : PoolD} (h : SlabP d) {i j : Nat} {l k : LandD} (hl : d.lands[i]? = some l) (hk : d.lands[j]? = some k) (hij : i ≠ j) {s : Nat} (hs : s ∈ l.slabs) : s ∉ k.slabs := by
  obtain ⟨A, B, h1, h2⟩ := flat_set (l' := ⟨l.there, l.gen, [], l.fill⟩) hl
  have hnd := h.nd
  rw [show d.owned = A ++ (l.slabs ++ B) from h1] at hnd
  obtain ⟨n1, n2, n3⟩ := List.nodup_append.1 hnd
  obtain ⟨n4, n5, n6⟩ := List.nodup_append.1 n2
  intro hsk
  have hm : s ∈ A ++ ([] ++ B) := by
    rw [← h2]
    exact List.mem_flatMap.2 ⟨k, List.mem_of_getElem? (by rw [List.getElem?_set_ne hij]; exact hk), hsk⟩
  rcases List.mem_append.1 hm with hm | hm
  · exact n3 s hm s (List.mem_append_left _ hs) rfl
  · exact n6 s hs s hm rfl
theorem wiped_slab : ∀ (l : List Nat) (d : PoolD) (s : Nat), s ∉ l → (d.wiped l).slabs[s]? = d.slabs[s]?
  | [], d, s, _ => rfl
  | a :: l, d, s, h => by
    show ((d.wipe1 a).wiped l).slabs[s]? = _
    rw [wiped_slab l (d.wipe1 a) s fun hm => h (List.mem_cons_of_mem _ hm)]
    show (d.slabs.set a _)[s]? = _
    rw [List.getElem?_set_ne fun e => h (by rw [e]; exact List.mem_cons_self)]
theorem bytesAt_eq {d d' : PoolD} {s r c : Nat} (h : d'.slabs[s]? = d.slabs[s]?) : d'.bytesAt s r c = d.bytesAt s r c := by
  unfold PoolD.bytesAt
  rw [List.getD_eq_getElem?_getD, List.getD_eq_getElem?_getD, h]
section
variable {D : EpD} {x : NoteD} {t : List UInt8}
theorem KeptN.pinned (h : KeptN D x t) {last : Nat} {pins : List (Ent Int Int) × Nat} : KeptN (D.pinned last pins) x t := h
theorem KeptN.len (h : KeptN D x t) (hk : PoolOk D.pool) : t.length = x.len := by
  obtain ⟨k, r, l', s, h1, h2, h3, h4, h5, h6, h7, h8⟩ := h
  obtain ⟨s', b, g1, g2, g3, g4⟩ := h5.slab hk
  rw [h7] at g1
  injection g1 with g1
  subst g1
  have := h5.inS
  rw [← h8]
  unfold PoolD.bytesAt
  rw [List.getD_eq_getElem?_getD, g2]
  show (List.take _ (List.drop _ b)).length = _
  rw [List.length_take, List.length_drop, g3]
  omega
theorem KeptN.adv (h : KeptN D x t) {i : Nat} {l : LandD} (hl : D.pool.lands[i]? = some l) (hf : l.there = false) : KeptN (D.adv i l) x t := by
  obtain ⟨k, r, l', s, h1, h2, h3, h4, h5, h6, h7, h8⟩ := h
  have hne : i ≠ x.reg := fun e => by
    have h9 := h5.at'
    rw [← e, hl] at h9
    injection h9 with h9
    have := h5.there
    rw [← h9, hf] at this; cases this
  exact ⟨k, r, l', s, h1, (List.getElem?_append_left (List.getElem?_eq_some_iff.1 h2).1).trans h2, h3, h4, ⟨(List.getElem?_set_ne hne).trans h5.at', h5.there, h5.pos, h5.fits, h5.inS⟩, h6, h7, h8⟩
theorem KeptN.drop1 (h : KeptN D x t) (w : EpW D) {r0 : EraD} {rs : List EraD} {l0 : LandD} (he : D.eras = r0 :: rs) (hl : D.pool.lands[r0.region]? = some l0) (hx : D.lo + 1 ≤ x.ep) : KeptN (D.drop1 r0 l0) x t := by
  obtain ⟨k, r, l', s, h1, h2, h3, h4, h5, h6, h7, h8⟩ := h
  obtain ⟨k', rfl⟩ : ∃ k', k = k' + 1 := ⟨k - 1, by omega⟩
  have hne : r0.region ≠ x.reg := fun e => by
    have := nodup_map_at w.ok.regN (i := 0) (j := k' + 1) (a := r0) (b := r) (by rw [he]; rfl) h2 (by rw [e, h4])
    omega
  have hs : s ∉ l0.slabs := w.sl.disj h5.at' hl (Ne.symm hne) (List.mem_of_getElem? h7)
  refine ⟨k', r, l', s, by show x.ep = D.lo + 1 + k'; omega, ?_, h3, h4, ⟨(List.getElem?_set_ne hne).trans h5.at', h5.there, h5.pos, h5.fits, h5.inS⟩, h6, h7, ?_⟩
  · show D.eras.tail[k']? = _
    rw [List.getElem?_tail]; exact h2
  · rw [← h8]
    exact bytesAt_eq (wiped_slab _ _ _ hs)
theorem KeptN.dropped : ∀ (m : Nat) (D : EpD), m < D.eras.length → EpW D → KeptN D x t → D.lo + m ≤ x.ep → KeptN (D.dropped m) x t
  | 0, D, _, _, h, _ => h
  | m + 1, D, hm, w, h, hx => by
    obtain ⟨r, r2, rs, he⟩ : ∃ r r2 rs, D.eras = r :: r2 :: rs := by
      match hD : D.eras with
      | [] => rw [hD] at hm; exact absurd hm (by simp)
      | [a] => rw [hD] at hm; exact absurd hm (by simp)
      | a :: b :: c => exact ⟨a, b, c, rfl⟩
    obtain ⟨l, hl, _⟩ := w.ok.reg r (by rw [he]; exact List.mem_cons_self)
    have hg : D.pool.lands.getD r.region landZ = l := by rw [List.getD_eq_getElem?_getD, hl]; rfl
    have e : D.dropped (m + 1) = (D.drop1 r l).dropped m := by
      show (match D.eras with | [] => D | r :: _ => _) = _
      rw [he]; simp only [hg]
    rw [e]
    refine KeptN.dropped m _ ?_ (w.drop1 he hl) (h.drop1 w he hl (by omega)) (by show D.lo + 1 + m ≤ _; omega)
    show m < D.eras.tail.length
    rw [List.length_tail]; omega
end
theorem stored_other {d : PoolD} {s s0 r0 r c : Nat} {b : List UInt8} (h : s ≠ s0) : (d.stored s0 r0 b).bytesAt s r c = d.bytesAt s r c :=
  bytesAt_eq (List.getElem?_set_ne (Ne.symm h))
theorem stored_at {d : PoolD} {s r0 : Nat} {a b : List UInt8} (hs : d.slabs[s]? = some a) : (d.stored s r0 b).slabs[s]? = some (a.take r0 ++ b ++ a.drop (r0 + b.length)) := by
  show (d.slabs.set s _)[s]? = _
  rw [List.getElem?_set_self (List.getElem?_eq_some_iff.1 hs).1, List.getD_eq_getElem?_getD, hs]; rfl
theorem stored_below {d : PoolD} {s r0 r c : Nat} {a b : List UInt8} (hs : d.slabs[s]? = some a) (h1 : r + c ≤ r0) (h2 : r0 ≤ a.length) : (d.stored s r0 b).bytesAt s r c = d.bytesAt s r c := by
  unfold PoolD.bytesAt
  rw [List.getD_eq_getElem?_getD, List.getD_eq_getElem?_getD, stored_at hs, hs]
  show List.take c (List.drop r (a.take r0 ++ b ++ a.drop (r0 + b.length))) = List.take c (List.drop r a)
  have hl : (a.take r0).length = r0 := by rw [List.length_take]; omega
  rw [List.append_assoc, List.drop_append_of_le_length (by omega), List.take_append_of_le_length (by rw [List.length_drop]; omega), List.drop_take, List.take_take, Nat.min_eq_left (by omega)]
theorem stored_self {d : PoolD} {s r0 : Nat} {a b : List UInt8} (hs : d.slabs[s]? = some a) (h2 : r0 ≤ a.length) : (d.stored s r0 b).bytesAt s r0 b.length = b := by
  unfold PoolD.bytesAt
  rw [List.getD_eq_getElem?_getD, stored_at hs]
  show List.take b.length (List.drop r0 (a.take r0 ++ b ++ a.drop (r0 + b.length))) = b
  have hl : (a.take r0).length = r0 := by rw [List.length_take]; omega
  rw [List.append_assoc, List.drop_append, hl, List.drop_eq_nil_of_le (by omega), Nat.sub_self, List.drop_zero, List.nil_append, List.take_left]
theorem div_mod_ge {o p c sz : Nat} (hsz : 0 < sz) (hq : o / sz = p / sz) (h : p + c ≤ o) : p % sz + c ≤ o % sz := by
  have h1 := Nat.div_add_mod o sz
  have h2 := Nat.div_add_mod p sz
  rw [hq] at h1
  omega
/-- What retiring makes, with the bytes. -/
theorem EpW.retireK {D : EpD} (h : EpW D) {k : Nat} {r : EraD} {l : LandD} {b : List UInt8} (hk : D.lo + k = D.now) (hr : D.eras[k]? = some r) (hl : D.pool.lands[r.region]? = some l) (ht : l.there = true) (hbb : r.bytes + b.length ≤ 1000000000) (hb1 : 1 ≤ b.length) (hb2 : b.length ≤ D.pool.size) :
    allocD D.pool r.region l b.length = (D.pool, hand0, 5) ∨
      ∃ (d' : PoolD) (o s0 : Nat) (l' : LandD), allocD D.pool r.region l b.length = (d', handA r.region l.gen o b.length, 0) ∧ PieceOk d' r.region l' o b.length ∧ l'.gen = l.gen ∧ l'.slabs[o / d'.size]? = some s0 ∧ d'.lands = D.pool.lands.set r.region l' ∧ d'.slabs.length = D.pool.slabs.length ∧ d'.size = D.pool.size ∧
        lookE r.notes ⟨D.now, r.region, l.gen, o, b.length⟩ = none ∧ ∀ d2 : PoolD, PoolOk d2 → d2 = d'.stored s0 (o % d'.size) b → EpW (D.retired d2 k r ⟨D.now, r.region, l.gen, o, b.length⟩) ∧
          KeptN (D.retired d2 k r ⟨D.now, r.region, l.gen, o, b.length⟩) ⟨D.now, r.region, l.gen, o, b.length⟩ b ∧ ∀ x t, KeptN D x t → KeptN (D.retired d2 k r ⟨D.now, r.region, l.gen, o, b.length⟩) x t := by
  rcases alloc_ok (c := b.length) h.pk hl ht with ⟨er, her, ha⟩ | ⟨d', o, s0, l', a1, a2, a3, a4, a5, a6, a7⟩
  · rcases her with rfl | rfl
    · exfalso
      unfold allocD at ha
      rw [if_neg (by omega)] at ha
      split at ha
      · injection ha with _ ha; injection ha with _ ha; cases ha
      · split at ha
        · injection ha with _ ha; injection ha with _ ha; cases ha
        · injection ha with _ ha; injection ha with _ ha; cases ha
    · exact .inl ha
  · rcases h.retire hk hr hl ht hbb with ⟨er, her, ha⟩ | ⟨d1, o1, s1, l1, b1, b2, b3, b4, b5, b6, b7, b8⟩
    · rw [a1] at ha
      injection ha with _ ha
      injection ha with _ ha
      rcases her with rfl | rfl <;> cases ha
    · rw [a1] at b1
      injection b1 with e1 e2
      injection e2 with e2 _
      subst e1
      have e3 : o1 = o := by
        simp only [handA, AV.agg.injEq, List.cons.injEq, AV.lit.injEq, Value.int.injEq] at e2
        omega
      subst e3
      have e4 : l1 = l' := by
        have := b2.at'
        rw [a2.at'] at this
        injection this with this
        exact this.symm
      subst e4
      have e5 : s1 = s0 := by
        rw [a4] at b4
        injection b4 with b4
        exact b4.symm
      subst e5
      refine .inr ⟨d', o1, s1, l1, a1, a2, a3, a4, a6, b6, a5, b7, fun d2 hd2 he => ?_⟩
      have W := b8 d2 hd2 he
      have hkl := (List.getElem?_eq_some_iff.1 hr).1
      have hli := (List.getElem?_eq_some_iff.1 hl).1
      have hl2 : d2.lands = D.pool.lands.set r.region l1 := by rw [he]; exact a6
      have hz2 : d2.size = D.pool.size := by rw [he]; exact a5
      have hsz := h.pk.sz
      have hat : d2.lands[r.region]? = some l1 := by rw [hl2]; exact List.getElem?_set_self hli
      -- the slab that is written
      have hsl1 : s1 < d'.slabs.length := by rw [b6]; rcases W.pk.ls l1 (List.mem_of_getElem? hat) with ⟨_, w2, _⟩; have w3 := w2 s1 (List.mem_of_getElem? a4); rw [show (D.retired d2 k r ⟨D.now, r.region, l.gen, o1, b.length⟩).pool = d2 from rfl, he] at w3; rw [show (d'.stored s1 (o1 % d'.size) b).slabs.length = d'.slabs.length from List.length_set ..] at w3; rw [← b6]; exact w3
      obtain ⟨a, ha⟩ : ∃ a, d'.slabs[s1]? = some a := ⟨_, List.getElem?_eq_getElem hsl1⟩
      have hin := a2.inS
      have halen : a.length = d'.size := by
        have hd2s : d2.slabs[s1]? = some (a.take (o1 % d'.size) ++ b ++ a.drop (o1 % d'.size + b.length)) := by rw [he]; exact stored_at ha
        have := hd2.bs _ (List.mem_of_getElem? hd2s)
        rw [hz2, ← a5] at this
        rcases a7 with ⟨e, _, _⟩ | ⟨e1, _, e2, _⟩
        · rw [e] at ha; rw [a5]; exact h.pk.bs a (List.mem_of_getElem? ha)
        · rw [e2] at ha
          have ha : (D.pool.slabs.set s1 (List.replicate D.pool.size 0))[s1]? = some a := ha
          have hs1 : s1 < D.pool.slabs.length := by rw [← b6]; exact hsl1
          rw [List.getElem?_set_self hs1] at ha
          injection ha with ha
          rw [← ha, List.length_replicate, a5]
      refine ⟨W, ⟨k, _, l1, s1, hk.symm, List.getElem?_set_self hkl, ?_, rfl, ⟨hat, a2.there, a2.pos, a2.fits, by show o1 % d2.size + _ ≤ d2.size; rw [hz2, ← a5]; exact hin⟩, a3, by show l1.slabs[o1 / d2.size]? = _; rw [hz2, ← a5]; exact a4, ?_⟩, fun x t hx => ?_⟩
      · show lookE (putE r.notes r.nc ⟨D.now, r.region, l.gen, o1, b.length⟩ ()).1 ⟨D.now, r.region, l.gen, o1, b.length⟩ = _
        rw [lookE_put, if_pos rfl]
      · show d2.bytesAt s1 (o1 % d2.size) b.length = b
        rw [hz2, ← a5, he]
        exact stored_self ha (by omega)
      · obtain ⟨k', r', l', s, h1, h2, h3, h4, h5, h6, h7, h8⟩ := hx
        have hxs := h5.slab h.pk
        have hsown : D.pool.taken[s]? = some true := (h.sl.tk s).2 (List.mem_flatMap.2 ⟨l', List.mem_of_getElem? h5.at', List.mem_of_getElem? h7⟩)
        -- bytes of a slab that was there
        have hold : ∀ c r1, d'.bytesAt s r1 c = D.pool.bytesAt s r1 c := fun c r1 => by
          rcases a7 with ⟨e, _, _⟩ | ⟨e1, _, e2, _⟩
          · rw [e]; rfl
          · rw [e2]
            have hne : s1 ≠ s := fun e => by
              have := (firstIdle_some e1).1
              rw [e, hsown] at this; cases this
            exact bytesAt_eq (List.getElem?_set_ne hne)
        by_cases hkk : k = k'
        · subst hkk
          rw [hr] at h2
          injection h2 with h2
          subst h2
          have hll : l' = l := by
            have := h5.at'
            rw [← h4, hl] at this
            injection this with this
            exact this.symm
          subst hll
          have hfo : l'.fill ≤ o1 := by
            rcases a7 with ⟨_, e, _⟩ | ⟨_, e, _⟩
            · omega
            · rw [e]; exact (h.pk.ls l' (List.mem_of_getElem? hl)).2.2.1
          have hfits := h5.fits
          have h7' : l1.slabs[x.off / D.pool.size]? = some s := by
            rcases a7 with ⟨_, _, e⟩ | ⟨_, _, _, e⟩
            · rw [e]; exact h7
            · rw [e]
              exact (List.getElem?_append_left (List.getElem?_eq_some_iff.1 h7).1).trans h7
          refine ⟨k, _, l1, s, h1, List.getElem?_set_self hkl, ?_, h4, ⟨by rw [← h4]; exact hat, a2.there, h5.pos, ?_, by show x.off % d2.size + _ ≤ d2.size; rw [hz2]; exact h5.inS⟩, by rw [a3]; exact h6, by show l1.slabs[x.off / d2.size]? = _; rw [hz2]; exact h7', ?_⟩
          · show lookE (putE r.notes r.nc ⟨D.now, r.region, l'.gen, o1, b.length⟩ ()).1 x = _
            rw [lookE_put]
            split
            · rfl
            · exact h3
          · have := a2.fits
            have := a2.pos
            omega
          · show d2.bytesAt s (x.off % d2.size) x.len = t
            rw [hz2, ← h8, he]
            by_cases hs : s = s1
            · subst hs
              have hq : o1 / D.pool.size = x.off / D.pool.size := nodup_at (W.sl.one hat) (a := s) (by rw [← a5]; exact a4) h7'
              rw [stored_below ha (by rw [a5]; exact div_mod_ge (by omega) hq (by omega)) (by omega)]
              exact hold _ _
            · rw [stored_other hs]
              exact hold _ _
        · have hne : r.region ≠ x.reg := fun e => hkk (nodup_map_at h.ok.regN hr h2 (by rw [e, h4]))
          have hat' : d2.lands[x.reg]? = some l' := by rw [hl2, List.getElem?_set_ne hne]; exact h5.at'
          have hs : s ≠ s1 := fun e => by
            subst e
            exact W.sl.disj hat hat' hne (List.mem_of_getElem? a4) (List.mem_of_getElem? h7)
          refine ⟨k', r', l', s, h1, ?_, h3, h4, ⟨hat', h5.there, h5.pos, h5.fits, by show x.off % d2.size + _ ≤ d2.size; rw [hz2]; exact h5.inS⟩, h6, by show l'.slabs[x.off / d2.size]? = _; rw [hz2]; exact h7, ?_⟩
          · show (D.eras.set k _)[k']? = _
            rw [List.getElem?_set_ne hkk]; exact h2
          · show d2.bytesAt s (x.off % d2.size) x.len = t
            rw [hz2, ← h8, he, stored_other hs]
            exact hold _ _
/-- Somebody looks. -/
structure GazeD where
  pin : Nat
  from' : Nat
  there : Bool
/-- Between the calls. -/
structure KepI (i : Nat) (D : EpD) (G : List GazeD) (X : List NoteD) (T : List ByteArray) : Prop where
  w : EpW D
  last : D.last = G.length
  gB : G.length ≤ i
  now1 : 1 ≤ D.now
  nowB : D.now ≤ i + 1
  pin : ∀ (k : Nat) (g : GazeD), G[k]? = some g → g.pin = k + 1
  gin : ∀ x ∈ D.pins, ∃ (k : Nat) (g : GazeD), G[k]? = some g ∧ g.there = true ∧ x.key = ((k + 1 : Nat) : Int) ∧ (D.lo : Int) ≤ x.val ∧ ∀ (j : Nat) (y : NoteD), g.from' ≤ j → X[j]? = some y → x.val ≤ (y.ep : Int)
  gout : ∀ (k : Nat) (g : GazeD), G[k]? = some g → g.there = true → ∃ x ∈ D.pins, x.key = ((k + 1 : Nat) : Int)
  xs : ∀ x ∈ X, x.ep ≤ D.now
  xl : X.length ≤ i
  tl : T.length = X.length
  kept : ∀ (j : Nat) (x : NoteD) (t : ByteArray), X[j]? = some x → T[j]? = some t → D.lo ≤ x.ep → KeptN D x t.data.toList
  bytes : ∀ r ∈ D.eras, r.bytes ≤ 101 * i
  K : D.pool.slabs.length = 200
  sz : D.pool.size = 512
section
variable {i : Nat} {D : EpD} {G : List GazeD} {X : List NoteD} {T : List ByteArray}
theorem KepI.up (h : KepI i D G X T) : KepI (i + 1) D G X T :=
  ⟨h.w, h.last, Nat.le_succ_of_le h.gB, h.now1, Nat.le_succ_of_le h.nowB, h.pin, h.gin, h.gout, h.xs, Nat.le_succ_of_le h.xl, h.tl, h.kept, fun r hr => by have := h.bytes r hr; omega, h.K, h.sz⟩
/-- What somebody may look at is there. -/
theorem KepI.see (h : KepI i D G X T) {k j : Nat} {g : GazeD} {x : NoteD} {t : ByteArray} (hg : G[k]? = some g) (hgt : g.there = true) (hj : g.from' ≤ j) (hx : X[j]? = some x) (ht : T[j]? = some t) : KeptN D x t.data.toList := by
  obtain ⟨p, hp, hpk⟩ := h.gout k g hg hgt
  obtain ⟨k', g', h1, h2, h3, h4, h5⟩ := h.gin p hp
  have : k' = k := by rw [hpk] at h3; omega
  subst this
  rw [hg] at h1
  injection h1 with h1
  subst h1
  exact h.kept j x t hx ht (by have := h5 j x hj hx; omega)
theorem KepI.pinned (h : KepI i D G X T) (ok : EpOk (D.pinned (D.last + 1) (D.pins ++ [⟨((D.last + 1 : Nat) : Int), (D.now : Int), D.pc⟩], D.pc + 1))) : KepI (i + 1) (D.pinned (D.last + 1) (D.pins ++ [⟨((D.last + 1 : Nat) : Int), (D.now : Int), D.pc⟩], D.pc + 1)) (G ++ [⟨D.last + 1, X.length, true⟩]) X T := by
  have hlo : D.lo ≤ D.now := by
    have h1 := h.w.ok.cnt
    have h2 := h.now1
    rcases h.w.ok.pos.2 with h0 | h0
    · omega
    · have := List.length_pos_iff.2 h0
      omega
  refine ⟨h.w.pinned ok, by show D.last + 1 = _; rw [List.length_append, h.last]; rfl, by rw [List.length_append]; exact Nat.succ_le_succ h.gB, h.now1, Nat.le_succ_of_le h.nowB, fun k g hg => ?_, fun x hx => ?_, fun k g hg ht => ?_, h.xs, Nat.le_succ_of_le h.xl, h.tl, h.kept, h.up.bytes, h.K, h.sz⟩
  · by_cases hk : k < G.length
    · rw [List.getElem?_append_left hk] at hg
      exact h.pin k g hg
    · have h1 := (List.getElem?_eq_some_iff.1 hg).1
      rw [List.length_append] at h1
      have hke : k = G.length := by simp at h1; omega
      subst hke
      rw [List.getElem?_concat_length] at hg
      injection hg with hg
      rw [← hg, h.last]
  · have hx : x ∈ D.pins ++ [_] := hx
    rcases List.mem_append.1 hx with hx | hx
    · obtain ⟨k, g, h1, h2, h3, h4, h5⟩ := h.gin x hx
      exact ⟨k, g, by rw [List.getElem?_append_left (List.getElem?_eq_some_iff.1 h1).1]; exact h1, h2, h3, h4, h5⟩
    · rw [List.mem_singleton.1 hx]
      refine ⟨G.length, _, List.getElem?_concat_length, rfl, by rw [h.last], by show (D.lo : Int) ≤ (D.now : Int); omega, fun j y hj hy => ?_⟩
      have := (List.getElem?_eq_some_iff.1 hy).1
      have hj : X.length ≤ j := hj
      omega
  · show ∃ x ∈ D.pins ++ [_], _
    by_cases hk : k < G.length
    · rw [List.getElem?_append_left hk] at hg
      obtain ⟨x, hx, e⟩ := h.gout k g hg ht
      exact ⟨x, List.mem_append_left _ hx, e⟩
    · have h1 := (List.getElem?_eq_some_iff.1 hg).1
      rw [List.length_append] at h1
      have hke : k = G.length := by simp at h1; omega
      exact ⟨_, List.mem_append_right _ (List.mem_singleton.2 rfl), by rw [hke, ← h.last]⟩
theorem KepI.look (h : KepI i D G X T) (kn : (D.pins.map (·.key)).Nodup) {k : Nat} {g : GazeD} (hg : G[k]? = some g) : (g.there = false ∧ lookE D.pins ((k + 1 : Nat) : Int) = none) ∨ (g.there = true ∧ ∃ v, lookE D.pins ((k + 1 : Nat) : Int) = some v) := by
  cases hgt : g.there with
  | false =>
    refine .inl ⟨rfl, lookE_none.2 fun x hx e => ?_⟩
    obtain ⟨k', g', h1, h2, h3, _⟩ := h.gin x hx
    have : k' = k := by rw [e] at h3; omega
    subst this
    rw [hg] at h1
    injection h1 with h1
    rw [← h1, hgt] at h2; cases h2
  | true =>
    obtain ⟨x, hx, e⟩ := h.gout k g hg hgt
    exact .inr ⟨rfl, x.val, by rw [← e]; exact mem_lookE kn hx⟩
theorem KepI.gone (h : KepI i D G X T) {k : Nat} {g : GazeD} (hg : G[k]? = some g) (hgt : g.there = false) : G.set k ⟨g.pin, g.from', false⟩ = G := by
  have : (⟨g.pin, g.from', false⟩ : GazeD) = g := by rw [← hgt]
  rw [this]
  exact set_same hg
theorem KepI.unpin (h : KepI i D G X T) (kn : (D.pins.map (·.key)).Nodup) {k : Nat} {g : GazeD} (hg : G[k]? = some g) (ok : EpOk (D.pinned D.last (delE D.pins ((k + 1 : Nat) : Int), D.pc))) : KepI (i + 1) (D.pinned D.last (delE D.pins ((k + 1 : Nat) : Int), D.pc)) (G.set k ⟨g.pin, g.from', false⟩) X T := by
  have hmem : ∀ x, x ∈ delE D.pins ((k + 1 : Nat) : Int) ↔ x ∈ D.pins ∧ x.key ≠ ((k + 1 : Nat) : Int) := fun x => by
    rw [del_filter kn, List.mem_filter]
    simp
  have hkl := (List.getElem?_eq_some_iff.1 hg).1
  refine ⟨h.w.pinned ok, by show D.last = _; rw [List.length_set]; exact h.last, by rw [List.length_set]; exact Nat.le_succ_of_le h.gB, h.now1, Nat.le_succ_of_le h.nowB, fun j q hq => ?_, fun x hx => ?_, fun j q hq ht => ?_, h.xs, Nat.le_succ_of_le h.xl, h.tl, h.kept, h.up.bytes, h.K, h.sz⟩
  · by_cases hj : k = j
    · subst hj
      rw [List.getElem?_set_self hkl] at hq
      injection hq with hq
      rw [← hq]; exact h.pin k g hg
    · rw [List.getElem?_set_ne hj] at hq
      exact h.pin j q hq
  · obtain ⟨b1, b2⟩ := (hmem x).1 hx
    obtain ⟨j, q, h1, h2, h3, h4, h5⟩ := h.gin x b1
    exact ⟨j, q, by rw [List.getElem?_set_ne (fun e => b2 (by rw [h3, e]))]; exact h1, h2, h3, h4, h5⟩
  · by_cases hj : k = j
    · subst hj
      rw [List.getElem?_set_self hkl] at hq
      injection hq with hq
      rw [← hq] at ht; cases ht
    · rw [List.getElem?_set_ne hj] at hq
      obtain ⟨x, hx, e⟩ := h.gout j q hq ht
      exact ⟨x, (hmem x).2 ⟨hx, by rw [e]; omega⟩, e⟩
theorem KepI.adv (h : KepI i D G X T) {j : Nat} {l : LandD} (hl : D.pool.lands[j]? = some l) (hf : l.there = false) (hn : D.now < 1000000000) : KepI (i + 1) (D.adv j l) G X T :=
  ⟨h.w.adv hl hf hn, h.last, Nat.le_succ_of_le h.gB, Nat.succ_pos _, Nat.succ_le_succ h.nowB, h.pin, h.gin, h.gout, fun x hx => Nat.le_succ_of_le (h.xs x hx), Nat.le_succ_of_le h.xl, h.tl, fun j x t h1 h2 h3 => (h.kept j x t h1 h2 h3).adv hl hf, fun r hr => by
    have hr : r ∈ D.eras ++ [_] := hr
    rcases List.mem_append.1 hr with hr | hr
    · exact h.up.bytes r hr
    · rw [List.mem_singleton.1 hr]; exact Nat.zero_le _, h.K, h.sz⟩
theorem dropped_poolK : ∀ (m : Nat) (D : EpD), (D.dropped m).pool.slabs.length = D.pool.slabs.length ∧ (D.dropped m).pool.size = D.pool.size
  | 0, D => ⟨rfl, rfl⟩
  | m + 1, D => by
    cases he : D.eras with
    | nil =>
      have : D.dropped (m + 1) = D := by show (match D.eras with | [] => D | r :: _ => _) = _; rw [he]
      rw [this]; exact ⟨rfl, rfl⟩
    | cons r rs =>
      have e : D.dropped (m + 1) = (D.drop1 r (D.pool.lands.getD r.region landZ)).dropped m := by show (match D.eras with | [] => D | r :: _ => _) = _; rw [he]
      obtain ⟨h1, h2⟩ := dropped_poolK m (D.drop1 r (D.pool.lands.getD r.region landZ))
      obtain ⟨_, _, w3, w4⟩ := wiped_lands (D.pool.lands.getD r.region landZ).slabs D.pool
      rw [e]
      exact ⟨h1.trans w3, h2⟩
theorem KepI.collect (h : KepI i D G X T) {z : Int} (hz : IsOldest D z) {c : Nat} (hcz : (D.lo : Int) + c = z ∨ (z ≤ D.lo ∧ c = 0)) (hc : c < D.eras.length) : KepI (i + 1) (D.dropped c) G X T := by
  obtain ⟨d1, d2, d3, d4, d5, d6⟩ := dropped_is c D (Nat.le_of_lt hc)
  obtain ⟨p1, p2⟩ := dropped_poolK c D
  refine ⟨EpW.dropped c D hc h.w, by rw [d4]; exact h.last, Nat.le_succ_of_le h.gB, by rw [d3]; exact h.now1, by rw [d3]; exact Nat.le_succ_of_le h.nowB, h.pin, ?_, by rw [d5]; exact h.gout, by rw [d3]; exact h.xs, Nat.le_succ_of_le h.xl, h.tl, fun j x t h1 h2 h3 => ?_, fun r hr => ?_, by rw [p1]; exact h.K, by rw [p2]; exact h.sz⟩
  · rw [d5, d2]
    intro x hx
    obtain ⟨k, g, h1, h2, h3, h4, h5⟩ := h.gin x hx
    have := hz.all x hx
    exact ⟨k, g, h1, h2, h3, by omega, h5⟩
  · rw [d2] at h3
    exact KeptN.dropped c D hc h.w (h.kept j x t h1 h2 (by omega)) h3
  · rw [d1] at hr
    exact h.up.bytes r (List.mem_of_mem_drop hr)
theorem KepI.retire (h : KepI i D G X T) (hi : i < 150) {k : Nat} {r : EraD} {l : LandD} {u : ByteArray} {b : List UInt8} (hu : u.data.toList = b) (hk : D.lo + k = D.now) (hr : D.eras[k]? = some r) (hl : D.pool.lands[r.region]? = some l) (ht : l.there = true) (hb1 : 1 ≤ b.length) (hb : b.length ≤ 101) :
    l.slabs.length < 4096 ∧ r.bytes + b.length ≤ 1000000000 ∧ (allocD D.pool r.region l b.length = (D.pool, hand0, 5) ∨
      ∃ (d' : PoolD) (o s0 : Nat) (l' : LandD), allocD D.pool r.region l b.length = (d', handA r.region l.gen o b.length, 0) ∧ PieceOk d' r.region l' o b.length ∧ l'.gen = l.gen ∧ l'.slabs[o / d'.size]? = some s0 ∧ d'.lands = D.pool.lands.set r.region l' ∧
        lookE r.notes ⟨D.now, r.region, l.gen, o, b.length⟩ = none ∧ (PoolOk (d'.stored s0 (o % d'.size) b) → KepI (i + 1) (D.retired (d'.stored s0 (o % d'.size) b) k r ⟨D.now, r.region, l.gen, o, b.length⟩) G (X ++ [⟨D.now, r.region, l.gen, o, b.length⟩]) (T ++ [u]))) := by
  have hfew := h.w.sl.few h.w.pk hl
  have hrb := h.bytes r (List.mem_of_getElem? hr)
  have hbb : r.bytes + b.length ≤ 1000000000 := by omega
  rw [h.K] at hfew
  refine ⟨by omega, hbb, ?_⟩
  rcases h.w.retireK hk hr hl ht hbb hb1 (by rw [h.sz]; omega) with hbad | ⟨d', o, s0, l', a1, a2, a3, a4, a5, a6, a6b, a7, a8⟩
  · exact .inl hbad
  · refine .inr ⟨d', o, s0, l', a1, a2, a3, a4, a5, a7, fun hpk => ?_⟩
    obtain ⟨c1, c2, c3⟩ := a8 _ hpk rfl
    refine ⟨c1, h.last, Nat.le_succ_of_le h.gB, h.now1, Nat.le_succ_of_le h.nowB, h.pin, fun x hx => ?_, h.gout, fun x hx => ?_, by rw [List.length_append]; exact Nat.succ_le_succ h.xl, by rw [List.length_append, List.length_append, h.tl]; rfl, fun j x t h1 h2 h3 => ?_, fun q hq => ?_, ?_, a6b.trans h.sz⟩
    · obtain ⟨k', g, q1, q2, q3, q4, q5⟩ := h.gin x hx
      refine ⟨k', g, q1, q2, q3, q4, fun j y hj hy => ?_⟩
      by_cases hjl : j < X.length
      · rw [List.getElem?_append_left hjl] at hy
        exact q5 j y hj hy
      · have h1 := (List.getElem?_eq_some_iff.1 hy).1
        rw [List.length_append] at h1
        have hje : j = X.length := by simp at h1; omega
        subst hje
        rw [List.getElem?_concat_length] at hy
        injection hy with hy
        rw [← hy]
        exact (h.w.ok.pinV x hx).2
    · rcases List.mem_append.1 hx with hx | hx
      · exact h.xs x hx
      · rw [List.mem_singleton.1 hx]; exact Nat.le_refl _
    · by_cases hjl : j < X.length
      · rw [List.getElem?_append_left hjl] at h1
        rw [List.getElem?_append_left (by rw [h.tl]; exact hjl)] at h2
        exact c3 x _ (h.kept j x t h1 h2 h3)
      · have hj2 := (List.getElem?_eq_some_iff.1 h1).1
        rw [List.length_append] at hj2
        have hje : j = X.length := by simp at hj2; omega
        subst hje
        rw [List.getElem?_concat_length] at h1
        rw [← h.tl, List.getElem?_concat_length] at h2
        injection h1 with h1
        injection h2 with h2
        rw [← h1, ← h2, hu]
        exact c2
    · have hq : q ∈ D.eras.set k _ := hq
      rcases List.mem_or_eq_of_mem_set hq with hq | rfl
      · exact h.up.bytes q hq
      · show r.bytes + b.length ≤ _
        omega
    · show (d'.slabs.set s0 _).length = 200
      rw [List.length_set, a6]; exact h.K
theorem kepI_first : KepI 0 ((epZ (poolZ 512 200)).adv 0 landZ) [] [] [] := by
  refine ⟨epW_first (by decide) (by decide), rfl, Nat.le_refl _, Nat.le_refl _, Nat.le_refl _, fun k g h => by simp at h, fun x hx => absurd hx List.not_mem_nil, fun k g h => by simp at h, fun x hx => absurd hx List.not_mem_nil, Nat.le_refl _, rfl, fun j x t h => by simp at h, fun r hr => ?_, by show (List.replicate 200 _).length = _; simp, rfl⟩
  have hr : r ∈ [_] := hr
  rw [List.mem_singleton.1 hr]; exact Nat.zero_le _
end
end Go.Proofs.Ytndojmpgadbefaa
