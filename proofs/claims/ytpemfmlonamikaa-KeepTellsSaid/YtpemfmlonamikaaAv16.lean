/- The abstract walk at chapter 16: versions, numbers and pairs; what is known of the callees. -/
import Derived.Test.YtpemfmlonamikaaAvTab
import Derived.Test.YtpemfmlonamikaaShowLaw
import Derived.Test.YtpemfmlonamikaaLooksLaw
import Derived.Test.YtpemfmlonamikaaWithin
namespace Go.Proofs.Ytpemfmlonamikaa
open Go Go.RowKit Av

section
variable {α : Type} {f : α → List Value} {g : α → List AV} {sz : Nat} {l : List α} {w : World} {F : Nat → Nat → Prop} {v : Value}
theorem lits_map (us : List Value) : lits (us.map AV.lit) = some us := by
  induction us with
  | nil => rfl
  | cons u us ih => simp only [List.map_cons, lits, ih]
theorem flat_lit (hg : ∀ a, g a = (f a).map AV.lit) (l : List α) : (l.map g).flatten = (l.flatMap f).map AV.lit := by
  induction l with
  | nil => rfl
  | cons a l ih => simp only [List.map_cons, List.flatten_cons, List.flatMap_cons, List.map_append, ih, hg]
theorem items_len (hg : ∀ a, g a = (f a).map AV.lit) (hf : ∀ a, (f a).length = sz) : ∀ it ∈ l.map g, it.length = sz := by
  intro it hit
  obtain ⟨a, _, rfl⟩ := List.mem_map.1 hit
  rw [hg, List.length_map, hf]
/-- A slice of flat things, as the walks of this seat say it. -/
theorem rd_of (hg : ∀ a, g a = (f a).map AV.lit) (hf : ∀ a, (f a).length = sz) (h : Rep w F (.sl (l.map g)) v) : RdT w sz f v l := by
  obtain ⟨xs, hx, _, hr⟩ := rep_vals h (items_len hg hf)
  rw [List.length_map] at hx
  obtain ⟨A, c, hv, h1, h2, hl, _⟩ := id hx
  have : xs = l.flatMap f := rep_lits (cs := (l.map g).flatten) (by rw [flatten_len (items_len hg hf), List.length_map, hl]) hr (by rw [flat_lit hg]; exact lits_map _)
  unfold RdT
  rw [← this]
  exact hx
theorem rep_row {base : Nat} {e : TypeId} (hg : ∀ a, g a = (f a).map AV.lit) (hf : ∀ a, (f a).length = sz) (h1 : ∀ a, ∀ u ∈ f a, u.oneCell' = true) (h : w.ownsRow base e sz v l.length (l.flatMap f)) (hF : ∀ b o, F b o → b < base) : Rep w F (.sl (l.map g)) v := by
  refine rep_of_own h (by simp) (items_len hg hf) (fun u hu => ?_) (fun j x u hx hu => ?_) (fun b hb o _ hFo => ?_)
  · obtain ⟨a, _, ha⟩ := List.mem_flatMap.1 hu
    exact h1 a u ha
  · rw [flat_lit hg, List.getElem?_map, hu] at hx
    simp only [Option.map_some, Option.some.injEq] at hx
    subst hx
    exact .lit u
  · have := hF b o hFo
    have := (h.lt b hb).1
    omega
end
section
variable {P : Program} {f : FuncId} {a b c res : AV}
theorem acalls0 (hok : okF P f = true) (h : ∀ w F, Calls P f #[] w fun e w' => ∃ v, e = .returned v ∧ Rep w' F res v ∧ Below w.heap.size w w') : ACalls P f [] res := by
  refine ⟨hok, fun w F vs _ hl _ => ?_⟩
  obtain rfl := List.eq_nil_of_length_eq_zero hl.symm
  exact h w F
theorem acalls1 (hok : okF P f = true) (h : ∀ w F v, (∀ b o, F b o → b < w.heap.size) → Rep w F a v → Calls P f #[v] w fun e w' => ∃ v, e = .returned v ∧ Rep w' F res v ∧ Below w.heap.size w w') : ACalls P f [a] res := by
  refine ⟨hok, fun w F vs hF hl hr => ?_⟩
  match vs, hl, hr with
  | [v], _, hr => exact h w F v hF (hr 0 _ _ rfl rfl)
theorem acalls2 (hok : okF P f = true) (h : ∀ w F v u, (∀ b o, F b o → b < w.heap.size) → Rep w F a v → Rep w F b u → Calls P f #[v, u] w fun e w' => ∃ v, e = .returned v ∧ Rep w' F res v ∧ Below w.heap.size w w') : ACalls P f [a, b] res := by
  refine ⟨hok, fun w F vs hF hl hr => ?_⟩
  match vs, hl, hr with
  | [v, u], _, hr => exact h w F v u hF (hr 0 _ _ rfl rfl) (hr 1 _ _ rfl rfl)
theorem acalls3 (hok : okF P f = true) (h : ∀ w F v u x, (∀ b o, F b o → b < w.heap.size) → Rep w F a v → Rep w F b u → Rep w F c x → Calls P f #[v, u, x] w fun e w' => ∃ v, e = .returned v ∧ Rep w' F res v ∧ Below w.heap.size w w') : ACalls P f [a, b, c] res := by
  refine ⟨hok, fun w F vs hF hl hr => ?_⟩
  match vs, hl, hr with
  | [v, u, x], _, hr => exact h w F v u x hF (hr 0 _ _ rfl rfl) (hr 1 _ _ rfl rfl) (hr 2 _ _ rfl rfl)
theorem rep_agg_lit {w : World} {F : Nat → Nat → Prop} {us : List Value} {v : Value} (h : Rep w F (.agg (us.map .lit)) v) : v = .agg us.toArray := by
  cases h with
  | agg _ vs hl h1 hr => rw [rep_lits hl hr (lits_map us)]
theorem rep_pair {w : World} {F : Nat → Nat → Prop} {x y : AV} {u v : Value} (h : Rep w F x u) (h' : Rep w F y v) : Rep w F (.tup [x, y]) (.tuple #[u, v]) := by
  refine Rep.tup [x, y] [u, v] rfl fun j c z hc hz => ?_
  match j with
  | 0 => simp only [List.getElem?_cons_zero, Option.some.injEq] at hc hz; subst hc hz; exact h
  | 1 => simp only [List.getElem?_cons_zero, List.getElem?_cons_succ, Option.some.injEq] at hc hz; subst hc hz; exact h'
  | j + 2 => simp at hc
end
def cellA (c : CellD) : List AV := [.lit (.string c.key), .lit (.int .i64 c.seq), .lit (.int .i64 c.kind), .lit (.string c.val)]
def cellsA (l : List CellD) : AV := .sl (l.map cellA)
def verA (c : CellD) : List AV := [.lit (.string c.key), .lit (.int .i64 c.seq), .lit (.int .i64 c.kind)]
def intA (a : Int) : List AV := [.lit (.int .i64 a)]
def intsA (l : List Int) : AV := .sl (l.map intA)
def pairA (c : CellD) : List AV := [.lit (.string c.key), .lit (.string c.val)]
def pairsA (l : List CellD) : AV := .sl (l.map pairA)
theorem cellA_len (c : CellD) : (cellA c).length = 4 := rfl
theorem intA_len (a : Int) : (intA a).length = 1 := rfl
theorem cellA_lit (c : CellD) : cellA c = (cellC c).map .lit := rfl
theorem intA_lit (a : Int) : intA a = (intC a).map .lit := rfl
theorem pairA_lit (c : CellD) : pairA c = (pairC c).map .lit := rfl
theorem intC_one (a : Int) : ∀ u ∈ intC a, u.oneCell' = true := by
  intro u hu
  simp only [intC, List.mem_singleton] at hu
  subst hu; rfl
section
variable {w : World} {F : Nat → Nat → Prop} {v : Value}
theorem rd_cells {l : List CellD} (h : Rep w F (cellsA l) v) : RdT w 4 cellC v l := rd_of cellA_lit cellC_len h
theorem rd_intsA {l : List Int} (h : Rep w F (intsA l) v) : RdT w 1 intC v l := rd_of intA_lit intC_len h
theorem rd_pairs {l : List CellD} (h : Rep w F (pairsA l) v) : RdT w 2 pairC v l := rd_of pairA_lit pairC_len h
theorem rep_cellsA {l : List CellD} {base : Nat} {e : TypeId} (h : w.ownsRow base e 4 v l.length (l.flatMap cellC)) (hF : ∀ b o, F b o → b < base) : Rep w F (cellsA l) v := rep_row cellA_lit cellC_len cellC_one h hF
theorem rep_pairsA {l : List CellD} {base : Nat} {e : TypeId} (h : w.ownsRow base e 2 v l.length (l.flatMap pairC)) (hF : ∀ b o, F b o → b < base) : Rep w F (pairsA l) v := rep_row pairA_lit pairC_len pairC_one h hF
end
theorem spares_av : ACalls Try.prog 10 [] (.lit (.bool true)) :=
  acalls0 (by kernel_rfl) fun w F => (spares_calls w).mono fun e w' ⟨he, hb⟩ => ⟨_, he, .lit _, hb⟩
theorem sort_av (l : List CellD) : ACalls Try.prog 11 [cellsA l] (cellsA (sortD l)) :=
  acalls1 (by kernel_rfl) fun w F v hF h => (sort_calls l v w (rd_cells h)).mono fun e w' ⟨v', he, ho, hb⟩ => ⟨v', he, rep_cellsA ho hF, hb⟩
theorem keep_av (s : List CellD) (zs : List Int) (b : Bool) (h1 : s.length ≤ 100000) (h2 : zs.length ≤ 100000) : ACalls Try.prog 12 [cellsA s, intsA zs, .lit (.bool b)] (.tup [cellsA (keepR s zs b).1, .lit (.int .i64 (keepR s zs b).2)]) :=
  acalls3 (by kernel_rfl) fun w F v u x hF hv hu hx => by
    cases hx
    exact (Keep_calls s zs b v u w (rd_cells hv) (rd_intsA hu) h1 h2).mono fun e w' ⟨v', he, ho, hb⟩ => ⟨_, he, rep_pair (rep_cellsA ho hF) (.lit _), hb⟩
theorem cells_av (l m : List CellD) : ACalls Try.prog 16 [cellsA l, cellsA m] (.lit (.bool (sameC l m))) :=
  acalls2 (by kernel_rfl) fun w F v u _ hv hu => (Cells_calls l m v u w (rd_cells hv) (rd_cells hu)).mono fun e w' ⟨he, hb⟩ => ⟨_, he, .lit _, hb⟩
theorem within_av (l m : List CellD) : ACalls Try.prog 17 [cellsA l, cellsA m] (.lit (.bool (withinB l m))) :=
  acalls2 (by kernel_rfl) fun w F v u _ hv hu => (within_calls l m v u w (rd_cells hv) (rd_cells hu)).mono fun e w' ⟨he, hb⟩ => ⟨_, he, .lit _, hb⟩
theorem less_av (a b : CellD) : ACalls Try.prog 23 [.agg (verA a), .agg (verA b)] (.lit (.bool (lessV a b))) :=
  acalls2 (by kernel_rfl) fun w F v u _ hv hu => by
    rw [rep_agg_lit (us := [.string a.key, .int .i64 a.seq, .int .i64 a.kind]) hv, rep_agg_lit (us := [.string b.key, .int .i64 b.seq, .int .i64 b.kind]) hu]
    exact (LessR_calls a b w).mono fun e w' ⟨he, hb⟩ => ⟨_, he, .lit _, hb⟩
theorem right_av (a : CellD) : ACalls Try.prog 24 [.agg (verA a)] (.lit (.bool (rightV a))) :=
  acalls1 (by kernel_rfl) fun w F v _ hv => by
    rw [rep_agg_lit (us := [.string a.key, .int .i64 a.seq, .int .i64 a.kind]) hv]
    exact (RightV_calls a w).mono fun e w' ⟨he, hb⟩ => ⟨_, he, .lit _, hb⟩
theorem view_av (l : List CellD) (at' : Int) (hl : l.length ≤ 1000000) : ACalls Try.prog 14 [cellsA l, .lit (.int .i64 at')] (pairsA (viewD at' [] l)) :=
  acalls2 (by kernel_rfl) fun w F v u hF hv hu => by
    cases hu
    exact (View_calls l at' v w (rd_cells hv) hl).mono fun e w' ⟨v', he, ho, hb⟩ => ⟨v', he, rep_pairsA ho hF, hb⟩
theorem pairs_av (l m : List CellD) : ACalls Try.prog 13 [pairsA l, pairsA m] (.lit (.bool (samePD l m))) :=
  acalls2 (by kernel_rfl) fun w F v u _ hv hu => (Pairs_calls l m v u w (rd_pairs hv) (rd_pairs hu)).mono fun e w' ⟨he, hb⟩ => ⟨_, he, .lit _, hb⟩
end Go.Proofs.Ytpemfmlonamikaa
