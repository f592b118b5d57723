/- From what a row reads to what the abstract walk is told. Plain. -/
import Derived.Test.YtpemfmlonamikaaAvFn
namespace Go.Proofs.Ytpemfmlonamikaa.Av
open Go Go.RowKit

section
variable {w : World} {F : Nat → Nat → Prop}
theorem reps_nil : ∀ (j : Nat) (x : AV) (v : Value), ([] : List AV)[j]? = some x → ([] : List Value)[j]? = some v → Rep w F x v := by
  intro j x v h; simp at h
theorem reps_cons {a : AV} {u : Value} {as : List AV} {vs : List Value} (h : Rep w F a u) (hr : ∀ (j : Nat) (x : AV) (v : Value), as[j]? = some x → vs[j]? = some v → Rep w F x v) : ∀ (j : Nat) (x : AV) (v : Value), (a :: as)[j]? = some x → (u :: vs)[j]? = some v → Rep w F x v := by
  intro j x v hx hv
  cases j with
  | zero => simp only [List.getElem?_cons_zero, Option.some.injEq] at hx hv; subst hx hv; exact h
  | succ j => exact hr j x v (by simpa using hx) (by simpa using hv)
/-- A slice of flat things. -/
theorem rep_of_rd {α : Type} {f : α → List Value} {g : α → List AV} {sz : Nat} {l : List α} {v : Value} (hg : ∀ a, g a = (f a).map AV.lit) (hf : ∀ a, (f a).length = sz) (h1 : ∀ a, ∀ u ∈ f a, u.oneCell' = true) (hsz : 0 < sz) (h : RdT w sz f v l) : Rep w (fun _ _ => False) (.sl (l.map g)) v := by
  have hi : ∀ it ∈ l.map g, it.length = sz := by
    intro it hit
    obtain ⟨a, _, rfl⟩ := List.mem_map.1 hit
    rw [hg, List.length_map, hf]
  have hfl : (l.map g).flatten = (l.flatMap f).map AV.lit := by
    clear h hi
    induction l with
    | nil => rfl
    | cons a l ih => simp only [List.map_cons, List.flatten_cons, List.flatMap_cons, List.map_append, ih, hg]
  obtain ⟨A, c, rfl, h2, h3, h4, h5⟩ := id h
  have hu : ∀ (j : Nat) (x : AV), (l.map g).flatten[j]? = some x → ∃ u, (l.flatMap f)[j]? = some u ∧ x = .lit u := fun j x hx => by
    rw [hfl, List.getElem?_map, Option.map_eq_some_iff] at hx
    obtain ⟨u, hu, e⟩ := hx
    exact ⟨u, hu, e.symm⟩
  have hgd : ∀ (j : Nat) (u : Value), (l.flatMap f)[j]? = some u → (l.flatMap f).getD j undef = u := fun j u hu => by rw [List.getD_eq_getElem?_getD, hu]; rfl
  have hlen : (l.map g).length = l.length := by simp
  rcases Nat.eq_zero_or_pos l.length with h0 | h0
  · obtain rfl := List.eq_nil_of_length_eq_zero h0
    exact rep_sl_nil rfl h3
  · obtain ⟨b, off, c', hv, hlt, _, _, _⟩ := RdT.at h hf hsz h0
    injection hv with hA _ _
    subst hA
    obtain ⟨ad, hA, hcell⟩ := h5 h0
    injection hA with hA
    subst hA
    rw [← hlen]
    refine Rep.sl (l.map g) sz _ c b off (fun j => (l.flatMap f).getD j undef) hi (by rw [hlen]; exact h2) h3 (fun _ => rfl) (fun j x hx => ?_) (fun _ _ _ h => h) (fun j x hx => ?_) (fun j x hx => ?_)
    · obtain ⟨u, hu, _⟩ := hu j x hx
      have := hcell j u hu
      rw [Addr.add_lit] at this
      rw [hgd j u hu]; exact this
    · obtain ⟨u, hu, _⟩ := hu j x hx
      rw [hgd j u hu]
      obtain ⟨a, _, ha⟩ := List.mem_flatMap.1 (List.mem_of_getElem? hu)
      exact h1 a u ha
    · obtain ⟨u, hu, rfl⟩ := hu j x hx
      rw [hgd j u hu]
      exact .lit u
theorem RdT.one {α : Type} {f : α → List Value} {sz : Nat} {l : List α} {v : Value} (h : RdT w sz f v l) : v.oneCell' = true := by
  obtain ⟨A, c, rfl, _⟩ := h
  rfl
/-- A function's answer, from nothing shut. -/
theorem acalls_run {P : Program} {f : FuncId} {as : List AV} {vs : List Value} {r : Value} (h : ACalls P f as (.lit r)) (hl : as.length = vs.length) (hr : ∀ (j : Nat) (x : AV) (v : Value), as[j]? = some x → vs[j]? = some v → Rep w (fun _ _ => False) x v) :
    Calls P f vs.toArray w fun e w' => e = .returned r ∧ Below w.heap.size w w' :=
  (h.2 w _ vs (fun _ _ h => h.elim) hl hr).mono fun e w' ⟨v, he, hr, hb⟩ => by
    cases hr
    exact ⟨he, hb⟩
end
end Go.Proofs.Ytpemfmlonamikaa.Av
