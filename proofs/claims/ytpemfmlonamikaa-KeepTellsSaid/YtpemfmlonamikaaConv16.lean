/- From the abstract walk to the walk over an abstract heap, and back, where no object is named. -/
import Derived.Test.YtpemfmlonamikaaHvTab
import Derived.Test.YtpemfmlonamikaaTellsA
namespace Go.Proofs.Ytpemfmlonamikaa
open Go Go.RowKit

inductive Cv : Av.AV → Hv.AV → Prop
  | lit (v : Value) : Cv (.lit v) (.lit v)
  | agg (cs : List Av.AV) (ds : List Hv.AV) (hl : cs.length = ds.length) (h : ∀ (j : Nat) (c : Av.AV) (d : Hv.AV), cs[j]? = some c → ds[j]? = some d → Cv c d) : Cv (.agg cs) (.agg ds)
  | tup (cs : List Av.AV) (ds : List Hv.AV) (hl : cs.length = ds.length) (h : ∀ (j : Nat) (c : Av.AV) (d : Hv.AV), cs[j]? = some c → ds[j]? = some d → Cv c d) : Cv (.tup cs) (.tup ds)
  | sl (cs : List (List Av.AV)) (ds : List (List Hv.AV)) (hl : cs.map List.length = ds.map List.length) (h : ∀ (j : Nat) (c : Av.AV) (d : Hv.AV), cs.flatten[j]? = some c → ds.flatten[j]? = some d → Cv c d) : Cv (.sl cs) (.sl ds)
theorem lens_flat {α β : Type} : ∀ {cs : List (List α)} {ds : List (List β)}, cs.map List.length = ds.map List.length → cs.length = ds.length ∧ cs.flatten.length = ds.flatten.length := by
  intro cs
  induction cs with
  | nil => intro ds h; cases ds with | nil => exact ⟨rfl, rfl⟩ | cons d ds => cases h
  | cons c cs ih =>
    intro ds h
    cases ds with
    | nil => cases h
    | cons d ds =>
      rw [List.map_cons, List.map_cons] at h
      injection h with h1 h2
      obtain ⟨i1, i2⟩ := ih h2
      exact ⟨by simp [i1], by simp [h1, i2]⟩
theorem lens_all {α β : Type} {cs : List (List α)} {ds : List (List β)} {sz : Nat} (h : cs.map List.length = ds.map List.length) (hc : ∀ c ∈ cs, c.length = sz) : ∀ d ∈ ds, d.length = sz := by
  intro d hd
  have : d.length ∈ cs.map List.length := by rw [h]; exact List.mem_map.2 ⟨d, hd, rfl⟩
  obtain ⟨c, hc', e⟩ := List.mem_map.1 this
  rw [← e]; exact hc c hc'
section
variable {w : World} {F : Nat → Nat → Prop} {gb : Hv.Gb}
theorem cv_to {a : Av.AV} {v : Value} (h : Av.Rep w F a v) : ∀ {b : Hv.AV}, Cv a b → Hv.Rep w F gb b v := by
  induction h with
  | lit v => intro b hc; cases hc; exact .lit v
  | agg cs vs hl h1 _ ih =>
    intro b hc
    cases hc with
    | agg _ ds hl' hcd =>
      refine .agg ds vs (by omega) h1 fun j c u hc hu => ?_
      have hlt := (List.getElem?_eq_some_iff.1 hc).1
      exact ih j _ u (List.getElem?_eq_getElem (by omega)) hu (hcd j _ c (List.getElem?_eq_getElem (by omega)) hc)
  | tup cs vs hl _ ih =>
    intro b hc
    cases hc with
    | tup _ ds hl' hcd =>
      refine .tup ds vs (by omega) fun j c u hc hu => ?_
      have hlt := (List.getElem?_eq_some_iff.1 hc).1
      exact ih j _ u (List.getElem?_eq_getElem (by omega)) hu (hcd j _ c (List.getElem?_eq_getElem (by omega)) hc)
  | sl items sz A c b off val hi hc hm ha hcell hF h1 _ ih =>
    intro b' hcv
    cases hcv with
    | sl _ ds hl hcd =>
      obtain ⟨e1, e2⟩ := lens_flat hl
      have at' : ∀ (j : Nat) (x : Hv.AV), ds.flatten[j]? = some x → ∃ y, items.flatten[j]? = some y ∧ Cv y x := fun j x hx => by
        have hlt := (List.getElem?_eq_some_iff.1 hx).1
        exact ⟨_, List.getElem?_eq_getElem (by omega), hcd j _ x (List.getElem?_eq_getElem (by omega)) hx⟩
      rw [e1]
      refine .sl ds sz A c b off val (lens_all hl hi) (by omega) hm (fun hne => ha fun e => hne (by subst e; exact List.eq_nil_of_length_eq_zero e1.symm)) (fun j x hx => ?_) (fun j x hx => ?_) (fun j x hx => ?_) (fun j x hx => ?_) <;> obtain ⟨y, hy, hyx⟩ := at' j x hx
      · exact hcell j y hy
      · exact hF j y hy
      · exact h1 j y hy
      · exact ih j y hy hyx
  | ref => intro b hc; cases hc
theorem cv_of {b : Hv.AV} {v : Value} (h : Hv.Rep w F gb b v) : ∀ {a : Av.AV}, Cv a b → Av.Rep w F a v := by
  induction h with
  | lit v => intro b hc; cases hc; exact .lit v
  | agg cs vs hl h1 _ ih =>
    intro b hc
    cases hc with
    | agg ds _ hl' hcd =>
      refine .agg ds vs (by omega) h1 fun j c u hc hu => ?_
      have hlt := (List.getElem?_eq_some_iff.1 hc).1
      exact ih j _ u (List.getElem?_eq_getElem (by omega)) hu (hcd j c _ hc (List.getElem?_eq_getElem (by omega)))
  | tup cs vs hl _ ih =>
    intro b hc
    cases hc with
    | tup ds _ hl' hcd =>
      refine .tup ds vs (by omega) fun j c u hc hu => ?_
      have hlt := (List.getElem?_eq_some_iff.1 hc).1
      exact ih j _ u (List.getElem?_eq_getElem (by omega)) hu (hcd j c _ hc (List.getElem?_eq_getElem (by omega)))
  | sl items sz A c b off val hi hc hm ha hcell hF h1 _ ih =>
    intro b' hcv
    cases hcv with
    | sl ds _ hl hcd =>
      obtain ⟨e1, e2⟩ := lens_flat hl
      have at' : ∀ (j : Nat) (x : Av.AV), ds.flatten[j]? = some x → ∃ y, items.flatten[j]? = some y ∧ Cv x y := fun j x hx => by
        have hlt := (List.getElem?_eq_some_iff.1 hx).1
        exact ⟨_, List.getElem?_eq_getElem (by omega), hcd j x _ hx (List.getElem?_eq_getElem (by omega))⟩
      rw [← e1]
      refine .sl ds sz A c b off val (lens_all hl.symm hi) (by omega) hm (fun hne => ha fun e => hne (by subst e; exact List.eq_nil_of_length_eq_zero e1)) (fun j x hx => ?_) (fun j x hx => ?_) (fun j x hx => ?_) (fun j x hx => ?_) <;> obtain ⟨y, hy, hyx⟩ := at' j x hx
      · exact hcell j y hy
      · exact hF j y hy
      · exact h1 j y hy
      · exact ih j y hy hyx
  | _ => intro a hc; cases hc
end
theorem okF_conv {P : Program} {f : FuncId} (h : Av.okF P f = true) : Hv.okF P f = true := h
theorem to_hv {P : Program} {f : FuncId} {xs : List Av.AV} {ys : List Hv.AV} {res : Av.AV} {res' : Hv.AV} (h : Av.ACalls P f xs res) (hl : xs.length = ys.length) (ha : ∀ (j : Nat) (x : Av.AV) (y : Hv.AV), xs[j]? = some x → ys[j]? = some y → Cv x y) (hr : Cv res res') : Hv.ACalls P f ys res' := by
  refine ⟨h.1, fun w W gb vs hW hlen hrep => (h.2 w W vs hW (by omega) fun j x v hx hv => ?_).mono fun e w' ⟨v, he, hv, hb⟩ => ⟨v, he, cv_to hv hr, hb⟩⟩
  have hlt := (List.getElem?_eq_some_iff.1 hx).1
  exact cv_of (hrep j _ v (List.getElem?_eq_getElem (by omega)) hv) (ha j x _ hx (List.getElem?_eq_getElem (by omega)))
theorem of_hv {P : Program} {f : FuncId} {xs : List Av.AV} {ys : List Hv.AV} {res : Av.AV} {res' : Hv.AV} (h : Hv.ACalls P f ys res') (hl : xs.length = ys.length) (ha : ∀ (j : Nat) (x : Av.AV) (y : Hv.AV), xs[j]? = some x → ys[j]? = some y → Cv x y) (hr : Cv res res') : Av.ACalls P f xs res := by
  refine ⟨h.1, fun w W vs hW hlen hrep => (h.2 w W (fun _ => none) vs hW (by omega) fun j x v hx hv => ?_).mono fun e w' ⟨v, he, hv, hb⟩ => ⟨v, he, cv_of hv hr, hb⟩⟩
  have hlt := (List.getElem?_eq_some_iff.1 hx).1
  exact cv_to (hrep j _ v (List.getElem?_eq_getElem (by omega)) hv) (ha j _ x (List.getElem?_eq_getElem (by omega)) hx)
def cellH (c : CellD) : List Hv.AV := [.lit (.string c.key), .lit (.int .i64 c.seq), .lit (.int .i64 c.kind), .lit (.string c.val)]
def intH (a : Int) : List Hv.AV := [.lit (.int .i64 a)]
theorem cellH_len (c : CellD) : (cellH c).length = 4 := rfl
theorem intH_len (a : Int) : (intH a).length = 1 := rfl
theorem cv_list {α : Type} {f : α → List Av.AV} {g : α → List Hv.AV} (hl : ∀ a, (f a).length = (g a).length) (h : ∀ a (j : Nat) (c : Av.AV) (d : Hv.AV), (f a)[j]? = some c → (g a)[j]? = some d → Cv c d) (l : List α) : Cv (.sl (l.map f)) (.sl (l.map g)) := by
  refine .sl _ _ (by simp [hl]) ?_
  induction l with
  | nil => intro j c d hc; simp at hc
  | cons a l ih =>
    intro j c d hc hd
    simp only [List.map_cons, List.flatten_cons] at hc hd
    by_cases hj : j < (f a).length
    · rw [List.getElem?_append_left hj] at hc
      rw [List.getElem?_append_left (by rw [← hl]; exact hj)] at hd
      exact h a j c d hc hd
    · rw [List.getElem?_append_right (by omega)] at hc
      rw [List.getElem?_append_right (by rw [← hl]; omega), ← hl] at hd
      exact ih _ c d hc hd
theorem cv_four {a b c d : Value} : ∀ (j : Nat) (x : Av.AV) (y : Hv.AV), ([.lit a, .lit b, .lit c, .lit d] : List Av.AV)[j]? = some x → ([.lit a, .lit b, .lit c, .lit d] : List Hv.AV)[j]? = some y → Cv x y := by
  intro j x y hx hy
  match j with
  | 0 => simp at hx hy; subst hx hy; exact .lit _
  | 1 => simp at hx hy; subst hx hy; exact .lit _
  | 2 => simp at hx hy; subst hx hy; exact .lit _
  | 3 => simp at hx hy; subst hx hy; exact .lit _
  | j + 4 => simp at hx
theorem cv_one {a : Value} : ∀ (j : Nat) (x : Av.AV) (y : Hv.AV), ([.lit a] : List Av.AV)[j]? = some x → ([.lit a] : List Hv.AV)[j]? = some y → Cv x y := by
  intro j x y hx hy
  match j with
  | 0 => simp at hx hy; subst hx hy; exact .lit _
  | j + 1 => simp at hx
theorem cv_cells (l : List CellD) : Cv (.sl (l.map cellA)) (.sl (l.map cellH)) := cv_list (fun _ => rfl) (fun _ => cv_four) l
theorem cv_ints (l : List Int) : Cv (.sl (l.map intA)) (.sl (l.map intH)) := cv_list (fun _ => rfl) (fun _ => cv_one) l
theorem cvs_nil : ∀ (j : Nat) (x : Av.AV) (y : Hv.AV), ([] : List Av.AV)[j]? = some x → ([] : List Hv.AV)[j]? = some y → Cv x y := by
  intro j x y hx; simp at hx
theorem cvs_cons {a : Av.AV} {b : Hv.AV} {xs : List Av.AV} {ys : List Hv.AV} (h : Cv a b) (hr : ∀ (j : Nat) (x : Av.AV) (y : Hv.AV), xs[j]? = some x → ys[j]? = some y → Cv x y) : ∀ (j : Nat) (x : Av.AV) (y : Hv.AV), (a :: xs)[j]? = some x → (b :: ys)[j]? = some y → Cv x y := by
  intro j x y hx hy
  cases j with
  | zero => simp at hx hy; subst hx hy; exact h
  | succ j => exact hr j x y (by simpa using hx) (by simpa using hy)
theorem seen_hv (l : List CellD) (looks : List Int) (k : Nat) (c : CellD) (hc : l[k]? = some c) (hk : l.length ≤ 1000000) (hlo : looks.length ≤ 1000000) :
    Hv.ACalls Try.prog 33 [.sl (l.map cellH), .lit (.int .i64 (k : Int)), .sl (looks.map intH)] (.lit (.bool (seenP looks (samePrev (prevAt l k) c) c))) :=
  to_hv (seen_av l looks k c hc hk hlo) rfl (cvs_cons (cv_cells l) (cvs_cons (.lit _) (cvs_cons (cv_ints looks) cvs_nil))) (.lit _)
theorem right16_hv (l : List CellD) (hl : l.length ≤ 1000000) : Hv.ACalls Try.prog 32 [.sl (l.map cellH)] (.lit (.bool (rightL l))) :=
  to_hv (right16_av l hl) rfl (cvs_cons (cv_cells l) cvs_nil) (.lit _)
end Go.Proofs.Ytpemfmlonamikaa
