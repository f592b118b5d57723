/- Abstract values over an abstract heap: values and slices that name no object, read back as they are. Plain: over any program. -/
import Derived.Test.YtmgpfckkafcllaaHvRow
set_option linter.unusedVariables false
set_option linter.unusedSimpArgs false
namespace Go.Proofs.Ytmgpfckkafcllaa.Hv
open Go Go.RowKit

/-- The value of what names no object and no slice. -/
def AV.val? : AV → Option Value
  | .lit v => some v
  | .agg cs => (lits cs).map fun vs => .agg vs.toArray
  | _ => none
section
variable {w : World} {W : Nat → Nat → Prop} {gb : Gb}
theorem rep_val {x : AV} {v u : Value} (h : Rep w W gb x v) (hb : x.val? = some u) : v = u := by
  unfold AV.val? at hb
  split at hb
  · simp only [Option.some.injEq] at hb; subst hb; exact rep_lit h
  · rename_i cs
    cases hl : lits cs with
    | none => rw [hl] at hb; cases hb
    | some vs =>
      rw [hl] at hb
      simp only [Option.map_some, Option.some.injEq] at hb
      rw [← hb]
      exact rep_aggc h hl
  · cases hb
theorem lits_map (us : List Value) : lits (us.map AV.lit) = some us := by
  induction us with
  | nil => rfl
  | cons u us ih => simp only [List.map_cons, lits, ih]
theorem flat_lit {α : Type} {f : α → List Value} {g : α → List AV} (hg : ∀ a, g a = (f a).map AV.lit) (l : List α) : (l.map g).flatten = (l.flatMap f).map AV.lit := by
  induction l with
  | nil => rfl
  | cons a l ih => simp only [List.map_cons, List.flatten_cons, List.flatMap_cons, List.map_append, ih, hg]
/-- A slice of flat things. -/
theorem rd_of_rep {α : Type} {f : α → List Value} {g : α → List AV} {sz : Nat} {l : List α} {v : Value} (hg : ∀ a, g a = (f a).map AV.lit) (hf : ∀ a, (f a).length = sz) (h : Rep w W gb (.sl (l.map g)) v) : RdT w sz f v l := by
  generalize hL : l.map g = items at h
  cases h with
  | sl _ sz' A c b off val hi hc hm ha hcell hF h1 hr =>
    have hlen : items.length = l.length := by rw [← hL, List.length_map]
    have hflat : items.flatten = (l.flatMap f).map AV.lit := by rw [← hL]; exact flat_lit hg l
    refine ⟨A, c, by rw [hlen], by omega, hm, flatMap_len hf l, fun h0 => ?_⟩
    have hne : items ≠ [] := fun e => by rw [e] at hlen; simp at hlen; omega
    refine ⟨_, ha hne, fun j u hu => ?_⟩
    have hx : items.flatten[j]? = some (.lit u) := by rw [hflat, List.getElem?_map, hu]; rfl
    rw [Addr.add_lit, hcell j _ hx, rep_lit (hr j _ hx)]
end
/-- A contract whose arguments name no object, led over. -/
theorem acalls_lit {P : Program} {f : FuncId} {args : List AV} {us : List Value} {r : Value} (hok : okF P f = true) (hv : args.map AV.val? = us.map some) (h : ∀ w, Calls P f us.toArray w fun e w' => e = .returned r ∧ Below w.heap.size w w') : ACalls P f args (.lit r) := by
  refine ⟨hok, fun w W gb vs hW hl hr => ?_⟩
  have hlen : args.length = us.length := by have := congrArg List.length hv; simpa using this
  obtain rfl : vs = us := by
    apply List.ext_getElem?
    intro j
    by_cases hj : j < us.length
    · have h1 : (args.map AV.val?)[j]? = (us.map some)[j]? := by rw [hv]
      rw [List.getElem?_map, List.getElem?_map, List.getElem?_eq_getElem (by omega), List.getElem?_eq_getElem hj] at h1
      simp only [Option.map_some, Option.some.injEq] at h1
      rw [List.getElem?_eq_getElem (by omega), List.getElem?_eq_getElem hj, rep_val (hr j _ vs[j] (List.getElem?_eq_getElem (by omega)) (List.getElem?_eq_getElem (by omega))) h1]
    · rw [List.getElem?_eq_none (by omega), List.getElem?_eq_none (by omega)]
  exact (h w).mono fun e w' h => ⟨_, h.1, .lit _, h.2⟩
end Go.Proofs.Ytmgpfckkafcllaa.Hv
