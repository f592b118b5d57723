/- Epochs, plain: whose the slabs are, and where the notes lie. -/
import Derived.Test.YtndojmpgadbefaaEpX
set_option linter.unusedVariables false
set_option linter.unusedSimpArgs false
namespace Go.Proofs.Ytndojmpgadbefaa
open Go Go.RowKit Hv
set_option maxRecDepth 20000
/-- The slabs of all regions. -/
def PoolD.owned (d : PoolD) : List Nat := d.lands.flatMap (·.slabs)
structure SlabP (d : PoolD) : Prop where
  nd : d.owned.Nodup
  tk : ∀ s : Nat, d.taken[s]? = some true ↔ s ∈ d.owned
  emp : ∀ l ∈ d.lands, l.there = false → l.slabs = []
theorem flat_set {ls : List LandD} {i : Nat} {l l' : LandD} (h : ls[i]? = some l) : ∃ A B, ls.flatMap (·.slabs) = A ++ (l.slabs ++ B) ∧ (ls.set i l').flatMap (·.slabs) = A ++ (l'.slabs ++ B) := by
  induction ls generalizing i with
  | nil => simp at h
  | cons a ls ih =>
    cases i with
    | zero =>
      simp only [List.getElem?_cons_zero, Option.some.injEq] at h
      subst h
      exact ⟨[], ls.flatMap (·.slabs), rfl, rfl⟩
    | succ i =>
      obtain ⟨A, B, h1, h2⟩ := ih (i := i) (by simpa using h)
      refine ⟨a.slabs ++ A, B, ?_, ?_⟩
      · rw [List.flatMap_cons, h1, List.append_assoc]
      · rw [List.set_cons_succ, List.flatMap_cons, h2, List.append_assoc]
theorem flat_same {ls : List LandD} {i : Nat} {l l' : LandD} (h : ls[i]? = some l) (he : l'.slabs = l.slabs) : (ls.set i l').flatMap (·.slabs) = ls.flatMap (·.slabs) := by
  obtain ⟨A, B, h1, h2⟩ := flat_set (l' := l') h
  rw [h1, h2, he]
theorem slabP_first {s K : Nat} : SlabP (poolZ s K) := by
  have h0 : (poolZ s K).owned = [] := by
    unfold PoolD.owned poolZ
    rw [List.flatMap_eq_nil_iff]
    intro l hl
    rw [List.eq_of_mem_replicate hl]; rfl
  refine ⟨by rw [h0]; exact List.nodup_nil, fun t => ?_, fun l hl _ => ?_⟩
  · rw [h0]
    constructor
    · intro ht
      have := List.eq_of_mem_replicate (List.mem_of_getElem? (show (List.replicate K false)[t]? = some true from ht))
      cases this
    · intro ht; cases ht
  · rw [List.eq_of_mem_replicate (show l ∈ List.replicate 256 landZ from hl)]; rfl
theorem SlabP.land {d : PoolD} (h : SlabP d) {i : Nat} {l l' : LandD} (hl : d.lands[i]? = some l) (he : l'.slabs = l.slabs) (ht : l'.there = false → l'.slabs = []) : SlabP ⟨d.size, d.slabs, d.taken, d.lands.set i l'⟩ := by
  have e : (⟨d.size, d.slabs, d.taken, d.lands.set i l'⟩ : PoolD).owned = d.owned := flat_same hl he
  refine ⟨by rw [e]; exact h.nd, fun s => by rw [e]; exact h.tk s, fun k hk hf => ?_⟩
  rcases List.mem_or_eq_of_mem_set hk with hk | rfl
  · exact h.emp k hk hf
  · exact ht hf
theorem SlabP.made {d : PoolD} (h : SlabP d) {i : Nat} {l : LandD} (hl : d.lands[i]? = some l) (hf : l.there = false) : SlabP (d.made i l) :=
  h.land hl (h.emp l (List.mem_of_getElem? hl) hf).symm (fun _ => rfl)
theorem SlabP.filled {d : PoolD} (h : SlabP d) {i f : Nat} {l : LandD} (hl : d.lands[i]? = some l) : SlabP (d.filled i l f) :=
  h.land hl rfl fun hf => h.emp l (List.mem_of_getElem? hl) hf
theorem SlabP.grown {d : PoolD} (h : SlabP d) {i s : Nat} {l : LandD} (hl : d.lands[i]? = some l) (ht : l.there = true) (hs : d.taken[s]? = some false) : SlabP (d.grown i l s) := by
  obtain ⟨A, B, h1, h2⟩ := flat_set (l' := ⟨l.there, l.gen, l.slabs ++ [s], l.slabs.length * d.size⟩) hl
  have hn : s ∉ d.owned := fun hm => by
    have := (h.tk s).2 hm
    rw [hs] at this; cases this
  have e1 : d.owned = A ++ (l.slabs ++ B) := h1
  have e2 : (d.grown i l s).owned = A ++ ((l.slabs ++ [s]) ++ B) := h2
  have hp : (d.grown i l s).owned.Perm (s :: d.owned) := by
    rw [e1, e2, List.append_assoc, List.singleton_append, ← List.append_assoc, ← List.append_assoc]
    exact List.perm_middle
  have hsl := (List.getElem?_eq_some_iff.1 hs).1
  refine ⟨hp.nodup_iff.2 (List.nodup_cons.2 ⟨hn, h.nd⟩), fun t => ?_, fun k hk hf => ?_⟩
  · rw [hp.mem_iff, List.mem_cons, ← h.tk t]
    show (d.taken.set s true)[t]? = some true ↔ _
    by_cases hts : t = s
    · subst hts
      rw [List.getElem?_set_self hsl]
      simp
    · rw [List.getElem?_set_ne (Ne.symm hts)]
      simp [hts]
  · have hk : k ∈ d.lands.set i _ := hk
    rcases List.mem_or_eq_of_mem_set hk with hk | rfl
    · exact h.emp k hk hf
    · rw [show l.there = false from hf] at ht; cases ht
theorem wiped_taken : ∀ (l : List Nat) (d : PoolD) (t : Nat), (d.wiped l).taken[t]? = some true ↔ d.taken[t]? = some true ∧ t ∉ l
  | [], d, t => by show d.taken[t]? = _ ↔ _; simp
  | s :: l, d, t => by
    have ih := wiped_taken l (d.wipe1 s) t
    show ((d.wipe1 s).wiped l).taken[t]? = some true ↔ _
    rw [ih]
    show (d.taken.set s false)[t]? = some true ∧ _ ↔ _
    by_cases hts : s = t
    · subst hts
      by_cases hl : s < d.taken.length
      · rw [List.getElem?_set_self hl]; simp
      · rw [List.getElem?_eq_none (by rw [List.length_set]; omega)]; simp
    · rw [List.getElem?_set_ne hts]
      simp [Ne.symm hts]
theorem SlabP.freed {d : PoolD} (h : SlabP d) {i : Nat} {l : LandD} (hl : d.lands[i]? = some l) : SlabP (d.freed i l) := by
  obtain ⟨A, B, h1, h2⟩ := flat_set (l' := ⟨false, l.gen, [], 0⟩) hl
  have e1 : d.owned = A ++ (l.slabs ++ B) := h1
  have e2 : (d.freed i l).owned = A ++ B := h2
  have hnd := h.nd
  rw [e1] at hnd
  obtain ⟨n1, n2, n3⟩ := List.nodup_append.1 hnd
  obtain ⟨n4, n5, n6⟩ := List.nodup_append.1 n2
  refine ⟨by rw [e2]; exact List.nodup_append.2 ⟨n1, n5, fun a ha b hb => n3 a ha b (List.mem_append_right _ hb)⟩, fun t => ?_, fun k hk hf => ?_⟩
  · show (d.wiped l.slabs).taken[t]? = some true ↔ _
    rw [wiped_taken, h.tk t, e1, e2]
    simp only [List.mem_append]
    constructor
    · rintro ⟨hm | hm | hm, hx⟩
      · exact .inl hm
      · exact absurd hm hx
      · exact .inr hm
    · rintro (hm | hm)
      · exact ⟨.inl hm, fun hx => n3 t hm t (List.mem_append_left _ hx) rfl⟩
      · exact ⟨.inr (.inr hm), fun hx => n6 t hx t hm rfl⟩
  · have hk : k ∈ d.lands.set i _ := hk
    rcases List.mem_or_eq_of_mem_set hk with hk | rfl
    · exact h.emp k hk hf
    · rfl
theorem SlabP.stored {d : PoolD} (h : SlabP d) {s r : Nat} {b : List UInt8} : SlabP (d.stored s r b) := ⟨h.nd, h.tk, h.emp⟩
theorem SlabP.few {d : PoolD} (h : SlabP d) (ok : PoolOk d) {i : Nat} {l : LandD} (hl : d.lands[i]? = some l) : l.slabs.length ≤ d.slabs.length := by
  obtain ⟨A, B, h1, _⟩ := flat_set (l' := l) hl
  have hnd := h.nd
  rw [show d.owned = A ++ (l.slabs ++ B) from h1] at hnd
  have hn := (List.nodup_append.1 (List.nodup_append.1 hnd).2.1).1
  have := len_le (b := List.range d.slabs.length) hn fun s hs => List.mem_range.2 ((ok.ls l (List.mem_of_getElem? hl)).2.1 s hs)
  rwa [List.length_range] at this
/-- No region, no slab taken. -/
theorem SlabP.idle {d : PoolD} (h : SlabP d) (ho : d.owned = []) : idleN d.taken = d.taken.length := by
  unfold idleN
  rw [List.filter_eq_self.2 fun b hb => ?_]
  obtain ⟨t, ht⟩ := List.mem_iff_getElem?.1 hb
  cases b with
  | false => rfl
  | true =>
    have := (h.tk t).1 ht
    rw [ho] at this; cases this
/-- The notes lie below what is handed out. -/
structure NoteP (D : EpD) : Prop where
  at' : ∀ r ∈ D.eras, ∀ l, D.pool.lands[r.region]? = some l → ∀ x ∈ r.notes, x.key.off + x.key.len ≤ l.fill ∧ 1 ≤ x.key.len
theorem NoteP.new {D : EpD} (h : NoteP D) {r : EraD} {l : LandD} (hr : r ∈ D.eras) (hl : D.pool.lands[r.region]? = some l) {a b c o : Nat} (hf : l.fill ≤ o) {n : Nat} : lookE r.notes ⟨a, b, c, o, n⟩ = none := lookE_none.2 fun x hx e => by
  obtain ⟨h1, h2⟩ := h.at' r hr l hl x hx
  rw [e] at h1 h2
  dsimp only at h1 h2
  omega
end Go.Proofs.Ytndojmpgadbefaa
