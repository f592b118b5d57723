/- Epochs, plain: all that stays true from call to call. -/
import Derived.Test.YtndojmpgadbefaaEpSl
set_option linter.unusedVariables false
set_option linter.unusedSimpArgs false
namespace Go.Proofs.Ytndojmpgadbefaa
open Go Go.RowKit Hv
set_option maxRecDepth 20000
structure EpW (D : EpD) : Prop where
  x : EpX D
  ok : EpOk D
  pk : PoolOk D.pool
  sl : SlabP D.pool
  np : NoteP D
theorem nodup_map_at {α : Type} {f : α → Nat} {l : List α} (h : (l.map f).Nodup) {i j : Nat} {a b : α} (hi : l[i]? = some a) (hj : l[j]? = some b) (e : f a = f b) : i = j :=
  nodup_at h (a := f a) (by rw [List.getElem?_map, hi]; rfl) (by rw [List.getElem?_map, hj, e]; rfl)
theorem NoteP.adv {D : EpD} (h : NoteP D) (ok : EpOk D) {i : Nat} {l : LandD} (hl : D.pool.lands[i]? = some l) (hf : l.there = false) : NoteP (D.adv i l) := by
  refine ⟨fun r hr k hk x hx => ?_⟩
  have hr : r ∈ D.eras ++ [_] := hr
  rcases List.mem_append.1 hr with hr | hr
  · obtain ⟨k', h1, h2⟩ := ok.reg r hr
    have hne : r.region ≠ i := fun e => by
      rw [e, hl] at h1
      injection h1 with h1
      rw [← h1, hf] at h2; cases h2
    have hk : (D.pool.lands.set i ⟨true, l.gen + 1, [], 0⟩)[r.region]? = some k := hk
    rw [List.getElem?_set_ne (Ne.symm hne)] at hk
    exact h.at' r hr k hk x hx
  · rw [List.mem_singleton.1 hr] at hx
    cases hx
theorem EpW.adv {D : EpD} (h : EpW D) {i : Nat} {l : LandD} (hl : D.pool.lands[i]? = some l) (hf : l.there = false) (hn : D.now < 1000000000) : EpW (D.adv i l) :=
  ⟨h.x.adv hl, h.ok.adv hl hf hn, h.pk.land ⟨Nat.zero_le _, fun s hs => absurd hs List.not_mem_nil, Nat.zero_le _, by show (0 - 1) * _ ≤ 0; simp, fun _ => rfl⟩, h.sl.made hl hf, h.np.adv h.ok hl hf⟩
theorem EpW.pinned {D : EpD} (h : EpW D) {last : Nat} {pins : List (Ent Int Int) × Nat} (ok : EpOk (D.pinned last pins)) : EpW (D.pinned last pins) :=
  ⟨⟨h.x.gen, h.x.own⟩, ok, h.pk, h.sl, ⟨h.np.at'⟩⟩
theorem PoolOk.freed {d : PoolD} (h : PoolOk d) {i : Nat} {l : LandD} (hl : d.lands[i]? = some l) : PoolOk (d.freed i l) := by
  obtain ⟨w1, w2, w3, w4⟩ := wiped_lands l.slabs d
  have hb : ∀ (s : List Nat) (d : PoolD), (∀ b ∈ d.slabs, b.length = d.size) → ∀ b ∈ (d.wiped s).slabs, b.length = d.size := by
    intro s
    induction s with
    | nil => intro d hd b hb; exact hd b hb
    | cons a s ih =>
      intro d hd b hb
      refine ih (d.wipe1 a) (fun c hc => ?_) b hb
      have hc : c ∈ d.slabs.set a _ := hc
      rcases List.mem_or_eq_of_mem_set hc with hc | rfl
      · exact hd c hc
      · exact List.length_replicate
  refine ⟨h.sz, by show (d.wiped l.slabs).slabs.length ≤ _; rw [w3]; exact h.k, fun b hbm => hb _ d h.bs b hbm, by show (d.lands.set i _).length = _; rw [List.length_set]; exact h.ll, by show (d.wiped l.slabs).taken.length = (d.wiped l.slabs).slabs.length; rw [w3, w4]; exact h.tl, fun k hk => ?_⟩
  have hk : k ∈ d.lands.set i _ := hk
  show _ ∧ (∀ s ∈ k.slabs, s < (d.wiped l.slabs).slabs.length) ∧ _
  rw [w3]
  rcases List.mem_or_eq_of_mem_set hk with hk | rfl
  · exact h.ls k hk
  · exact ⟨Nat.zero_le _, fun s hs => absurd hs List.not_mem_nil, Nat.zero_le _, by show (0 - 1) * _ ≤ 0; simp, fun _ => rfl⟩
theorem EpW.drop1 {D : EpD} (h : EpW D) {r r2 : EraD} {rs : List EraD} {l : LandD} (hr : D.eras = r :: r2 :: rs) (hl : D.pool.lands[r.region]? = some l) : EpW (D.drop1 r l) := by
  refine ⟨h.x.drop1 hr hl, h.ok.drop1 hr hl, h.pk.freed hl, h.sl.freed hl, ⟨fun q hq k hk x hx => ?_⟩⟩
  have hq : q ∈ D.eras.tail := hq
  have hnd := h.ok.regN
  rw [hr, List.map_cons, List.nodup_cons] at hnd
  have hne : q.region ≠ r.region := fun e => hnd.1 (by rw [← e]; exact List.mem_map.2 ⟨q, by rw [hr] at hq; exact hq, rfl⟩)
  have hk : (D.pool.lands.set r.region ⟨false, l.gen, [], 0⟩)[q.region]? = some k := hk
  rw [List.getElem?_set_ne (Ne.symm hne)] at hk
  exact h.np.at' q (List.mem_of_mem_tail hq) k hk x hx
theorem EpW.dropped : ∀ (m : Nat) (D : EpD), m < D.eras.length → EpW D → EpW (D.dropped m)
  | 0, D, _, w => w
  | m + 1, D, h, w => by
    obtain ⟨r, r2, rs, he⟩ : ∃ r r2 rs, D.eras = r :: r2 :: rs := by
      match hD : D.eras with
      | [] => rw [hD] at h; exact absurd h (by simp)
      | [a] => rw [hD] at h; exact absurd h (by simp)
      | a :: b :: c => exact ⟨a, b, c, rfl⟩
    obtain ⟨l, hl, _⟩ := w.ok.reg r (by rw [he]; exact List.mem_cons_self)
    have hg : D.pool.lands.getD r.region landZ = l := by rw [List.getD_eq_getElem?_getD, hl]; rfl
    have e : D.dropped (m + 1) = (D.drop1 r l).dropped m := by
      show (match D.eras with | [] => D | r :: _ => _) = _
      rw [he]; simp only [hg]
    rw [e]
    refine EpW.dropped m _ ?_ (w.drop1 he hl)
    show m < D.eras.tail.length
    rw [List.length_tail]; omega
/-- What retiring makes: as the contract has it. -/
theorem EpW.retire {D : EpD} (h : EpW D) {k : Nat} {r : EraD} {l : LandD} {b : List UInt8} (hk : D.lo + k = D.now) (hr : D.eras[k]? = some r) (hl : D.pool.lands[r.region]? = some l) (ht : l.there = true) (hbb : r.bytes + b.length ≤ 1000000000) :
    (∃ er : Int, (er = 1 ∨ er = 5) ∧ allocD D.pool r.region l b.length = (D.pool, hand0, er)) ∨
      ∃ (d' : PoolD) (o s0 : Nat) (l' : LandD), allocD D.pool r.region l b.length = (d', handA r.region l.gen o b.length, 0) ∧ PieceOk d' r.region l' o b.length ∧ l'.gen = l.gen ∧ l'.slabs[o / d'.size]? = some s0 ∧ d'.lands = D.pool.lands.set r.region l' ∧ d'.slabs.length = D.pool.slabs.length ∧
        lookE r.notes ⟨D.now, r.region, l.gen, o, b.length⟩ = none ∧ ∀ d2 : PoolD, PoolOk d2 → d2 = d'.stored s0 (o % d'.size) b → EpW (D.retired d2 k r ⟨D.now, r.region, l.gen, o, b.length⟩) := by
  rcases alloc_ok (c := b.length) h.pk hl ht with hbad | ⟨d', o, s0, l', a1, a2, a3, a4, a5, a6, a7⟩
  · exact .inl hbad
  · have hfo : l.fill ≤ o := by
      rcases a7 with ⟨_, e, _⟩ | ⟨_, e, _⟩
      · omega
      · rw [e]; exact (h.pk.ls l (List.mem_of_getElem? hl)).2.2.1
    have hrm := List.mem_of_getElem? hr
    have hnew := h.np.new hrm hl hfo (a := D.now) (b := r.region) (c := l.gen) (n := b.length)
    have hli := (List.getElem?_eq_some_iff.1 hl).1
    have hsl' : d'.slabs.length = D.pool.slabs.length := by
      rcases a7 with ⟨e, _, _⟩ | ⟨_, _, e, _⟩
      · rw [e]; rfl
      · rw [e]; exact List.length_set ..
    refine .inr ⟨d', o, s0, l', a1, a2, a3, a4, a6, hsl', hnew, fun d2 hd2 he => ?_⟩
    have hl2 : d2.lands = D.pool.lands.set r.region l' := by rw [he]; exact a6
    have hsl : SlabP d2 := by
      rw [he]
      refine SlabP.stored ?_
      rcases a7 with ⟨e, _, _⟩ | ⟨e1, _, e2, _⟩
      · rw [e]; exact h.sl.filled hl
      · rw [e2]
        refine SlabP.land (h.sl.grown hl ht (firstIdle_some e1).1) (l := ⟨l.there, l.gen, l.slabs ++ [s0], l.slabs.length * D.pool.size⟩) (List.getElem?_set_self hli) rfl fun hf => ?_
        rw [show l.there = false from hf] at ht; cases ht
    have lands : ∀ (j : Nat) (q : LandD), d2.lands[j]? = some q → (j = r.region ∧ q = l') ∨ (j ≠ r.region ∧ D.pool.lands[j]? = some q) := fun j q hq => by
      rw [hl2] at hq
      by_cases hj : j = r.region
      · subst hj
        rw [List.getElem?_set_self hli] at hq
        injection hq with hq
        exact .inl ⟨rfl, hq.symm⟩
      · rw [List.getElem?_set_ne (Ne.symm hj)] at hq
        exact .inr ⟨hj, hq⟩
    obtain ⟨r', hr'⟩ : ∃ r' : EraD, r' = ⟨r.region, (putE r.notes r.nc ⟨D.now, r.region, l.gen, o, b.length⟩ ()).1, (putE r.notes r.nc ⟨D.now, r.region, l.gen, o, b.length⟩ ()).2, r.bytes + b.length⟩ := ⟨_, rfl⟩
    have hreg : r'.region = r.region := by rw [hr']
    have hD : D.retired d2 k r ⟨D.now, r.region, l.gen, o, b.length⟩ = (D.pooled d2).eraSet k r' := by rw [hr']; rfl
    have hkl := (List.getElem?_eq_some_iff.1 hr).1
    rw [hD]
    refine ⟨⟨fun j q hq => ?_, fun j q hq hqt => ?_⟩, (h.ok.landed hl2 a2.there).eraSet hr hreg (by rw [hr']; exact hbb), hd2, hsl, ⟨fun q hq kk hkk x hx => ?_⟩⟩
    · rcases lands j q hq with ⟨rfl, rfl⟩ | ⟨_, hq⟩
      · show q.gen ≤ D.now
        rw [a3]; exact h.x.gen _ l hl
      · exact h.x.gen j q hq
    · show ∃ w ∈ D.eras.set k r', _
      rcases lands j q hq with ⟨rfl, rfl⟩ | ⟨hj, hq⟩
      · exact ⟨r', List.mem_of_getElem? (List.getElem?_set_self hkl), hreg⟩
      · obtain ⟨w, hw, e⟩ := h.x.own j q hq hqt
        obtain ⟨m, hm⟩ := List.mem_iff_getElem?.1 hw
        by_cases hmk : k = m
        · subst hmk
          rw [hr] at hm
          injection hm with hm
          subst hm
          exact absurd e.symm hj
        · exact ⟨w, List.mem_of_getElem? (by rw [List.getElem?_set_ne hmk]; exact hm), e⟩
    · have hq : q ∈ D.eras.set k r' := hq
      obtain ⟨m, hm⟩ := List.mem_iff_getElem?.1 hq
      by_cases hmk : k = m
      · subst hmk
        rw [List.getElem?_set_self hkl] at hm
        injection hm with hm
        subst hm
        rw [hreg] at hkk
        rcases lands _ kk hkk with ⟨_, rfl⟩ | ⟨hj, _⟩
        · rw [hr'] at hx
          rw [put_new _ hnew] at hx
          rcases List.mem_append.1 hx with hx | hx
          · obtain ⟨q1, q2⟩ := h.np.at' r hrm l hl x hx
            have := a2.fits
            exact ⟨by omega, q2⟩
          · rw [List.mem_singleton.1 hx]
            exact ⟨a2.fits, a2.pos⟩
        · exact absurd rfl hj
      · rw [List.getElem?_set_ne hmk] at hm
        have hne : q.region ≠ r.region := fun e => hmk (nodup_map_at h.ok.regN hr hm e.symm)
        rcases lands _ kk hkk with ⟨e, _⟩ | ⟨_, hkk⟩
        · exact absurd e hne
        · exact h.np.at' q (List.mem_of_getElem? hm) kk hkk x hx
theorem epW_first {s K : Nat} (hs : 64 ≤ s ∧ s ≤ 65536) (hK : K ≤ 4096) : EpW ((epZ (poolZ s K)).adv 0 landZ) := by
  have ok : EpOk ((epZ (poolZ s K)).adv 0 landZ) := (epZ_ok _).adv rfl rfl (by show 0 < _; decide)
  have np : NoteP (epZ (poolZ s K)) := ⟨fun r hr => absurd hr List.not_mem_nil⟩
  exact ⟨epX_first s K, ok, (poolZ_ok hs hK).land ⟨Nat.zero_le _, fun s hs => absurd hs List.not_mem_nil, Nat.zero_le _, by show (0 - 1) * _ ≤ 0; simp, fun _ => rfl⟩, slabP_first.made rfl rfl, np.adv (epZ_ok _) rfl rfl⟩
end Go.Proofs.Ytndojmpgadbefaa
