/- From what a row reads to what the walk over a heap is told. Plain. -/
import Derived.Test.YtheanmfdfoefoaaHvFn
import Derived.Test.YtheanmfdfoefoaaKit
namespace Go.Proofs.Ytheanmfdfoefoaa.Hv
open Go Go.RowKit

section
variable {w : World} {gb : Gb}
theorem reps_nil {W : Nat → Nat → Prop} : ∀ (j : Nat) (x : AV) (v : Value), ([] : List AV)[j]? = some x → ([] : List Value)[j]? = some v → Rep w W gb x v := by
  intro j x v h; simp at h
theorem reps_cons {W : Nat → Nat → Prop} {a : AV} {u : Value} {as : List AV} {vs : List Value} (h : Rep w W gb a u) (hr : ∀ (j : Nat) (x : AV) (v : Value), as[j]? = some x → vs[j]? = some v → Rep w W gb x v) : ∀ (j : Nat) (x : AV) (v : Value), (a :: as)[j]? = some x → (u :: vs)[j]? = some v → Rep w W gb x v := by
  intro j x v hx hv
  cases j with
  | zero => simp only [List.getElem?_cons_zero, Option.some.injEq] at hx hv; subst hx hv; exact h
  | succ j => exact hr j x v (by simpa using hx) (by simpa using hv)
theorem flat_pair {α : Type} {f : α → List Value} {g : α → List AV} (hl : ∀ a, (g a).length = (f a).length) : ∀ (l : List α) (j : Nat) (x : AV), (l.map g).flatten[j]? = some x → ∃ u, (l.flatMap f)[j]? = some u ∧ ∃ a ∈ l, ∃ k : Nat, (g a)[k]? = some x ∧ (f a)[k]? = some u := by
  intro l
  induction l with
  | nil => intro j x h; simp at h
  | cons a l ih =>
    intro j x h
    rw [List.map_cons, List.flatten_cons] at h
    rw [List.flatMap_cons]
    by_cases hj : j < (g a).length
    · rw [List.getElem?_append_left hj] at h
      have hj' : j < (f a).length := by rw [← hl]; exact hj
      exact ⟨(f a)[j], by rw [List.getElem?_append_left hj']; exact List.getElem?_eq_getElem hj', a, List.mem_cons_self, j, h, List.getElem?_eq_getElem hj'⟩
    · rw [List.getElem?_append_right (by omega)] at h
      obtain ⟨u, hu, b, hb, k, h1, h2⟩ := ih _ _ h
      refine ⟨u, ?_, b, List.mem_cons_of_mem _ hb, k, h1, h2⟩
      rw [List.getElem?_append_right (by rw [← hl]; omega), ← hl]
      exact hu
/-- A slice of things whose cells are worth something. -/
theorem rep_of_rdN {α : Type} {W : Nat → Nat → Prop} {f : α → List Value} {g : α → List AV} {sz : Nat} {l : List α} {v : Value} (hW : ∀ b o, ¬ W b o) (hgl : ∀ a, (g a).length = sz) (hf : ∀ a, (f a).length = sz) (h1 : ∀ a ∈ l, ∀ u ∈ f a, u.oneCell' = true)
    (hg : ∀ a ∈ l, ∀ (k : Nat) (x : AV) (u : Value), (g a)[k]? = some x → (f a)[k]? = some u → Rep w W gb x u) (hsz : 0 < sz) (h : RdT w sz f v l) : Rep w W gb (.sl (l.map g)) v := by
  have hi : ∀ it ∈ l.map g, it.length = sz := by
    intro it hit
    obtain ⟨a, _, rfl⟩ := List.mem_map.1 hit
    exact hgl a
  obtain ⟨A, c, rfl, h2, h3, h4, h5⟩ := id h
  have hu := flat_pair (f := f) (g := g) (fun a => (hgl a).trans (hf a).symm) l
  have hgd : ∀ (j : Nat) (u : Value), (l.flatMap f)[j]? = some u → (l.flatMap f).getD j undef = u := fun j u hu => by rw [List.getD_eq_getElem?_getD, hu]; rfl
  have hlen : (l.map g).length = l.length := by simp
  rcases Nat.eq_zero_or_pos l.length with h0 | h0
  · obtain rfl := List.eq_nil_of_length_eq_zero h0
    exact rep_sl_nil rfl h3
  · obtain ⟨b, off, c', hv, hlt, _, _, _⟩ := RdT.at h hf hsz h0
    injection hv with hA _ _
    subst hA
    obtain ⟨ad, hA, hcell⟩ := h5 h0
    injection hA with hA
    subst hA
    rw [← hlen]
    refine Rep.sl (l.map g) sz _ c b off (fun j => (l.flatMap f).getD j undef) hi (by rw [hlen]; exact h2) h3 (fun _ => rfl) (fun j x hx => ?_) (fun _ _ _ => hW _ _) (fun j x hx => ?_) (fun j x hx => ?_)
    · obtain ⟨u, hu, _⟩ := hu j x hx
      have := hcell j u hu
      rw [Addr.add_lit] at this
      rw [hgd j u hu]; exact this
    · obtain ⟨u, hu, a, ha, k, _, hk⟩ := hu j x hx
      rw [hgd j u hu]
      exact h1 a ha u (List.mem_of_getElem? hk)
    · obtain ⟨u, hu, a, ha, k, hx', hk⟩ := hu j x hx
      rw [hgd j u hu]
      exact hg a ha k x u hx' hk
theorem rep_of_rd {α : Type} {W : Nat → Nat → Prop} {f : α → List Value} {g : α → List AV} {sz : Nat} {l : List α} {v : Value} (hW : ∀ b o, ¬ W b o) (hg : ∀ a, g a = (f a).map AV.lit) (hf : ∀ a, (f a).length = sz) (h1 : ∀ a, ∀ u ∈ f a, u.oneCell' = true) (hsz : 0 < sz) (h : RdT w sz f v l) : Rep w W gb (.sl (l.map g)) v :=
  rep_of_rdN hW (fun a => by rw [hg, List.length_map, hf]) hf (fun a _ => h1 a) (fun a _ k x u hx hu => by
    rw [hg, List.getElem?_map, hu] at hx
    simp only [Option.map_some, Option.some.injEq] at hx
    subst hx
    exact .lit u) hsz h
theorem RdT.one {α : Type} {f : α → List Value} {sz : Nat} {l : List α} {v : Value} (h : RdT w sz f v l) : v.oneCell' = true := by
  obtain ⟨A, c, rfl, _⟩ := h
  rfl
/-- A function's answer, from nothing shut. -/
theorem acalls_run {P : Program} {f : FuncId} {as : List AV} {vs : List Value} {r : Value} (h : ACalls P f as (.lit r)) (hl : as.length = vs.length) (hr : ∀ (j : Nat) (x : AV) (v : Value), as[j]? = some x → vs[j]? = some v → Rep w (fun _ _ => False) (fun _ => none) x v) :
    Calls P f vs.toArray w fun e w' => e = .returned r ∧ Below w.heap.size w w' :=
  (h.2 w (fun _ _ => False) (fun _ => none) vs (fun _ _ h => h.elim) hl hr).mono fun e w' ⟨v, he, hv, hb⟩ => ⟨by rw [he, rep_lit hv], hb⟩
end
end Go.Proofs.Ytheanmfdfoefoaa.Hv
