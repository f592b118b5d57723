/- Abstract values: variables of the frame's own, structs and slices that are written out. Plain: over any program. -/
import Derived.Test.YtpemfmlonamikaaAvApp
import Derived.Great.BuildSlice
namespace Go.Proofs.Ytpemfmlonamikaa.Av
open Go Go.RowKit

section
variable {P : Program} {T : Tbl} {N : Nat} {F : Nat → Nat → Prop} {w0 w w' : World} {s : AS} {a : Act} {tok : Tok} {bx : Bx} {o : Oper} {K : AS → Prop} {Kc : Act → World → Prop} {Q : Exit → Act → World → Prop}
/-- Cells, one by one. -/
structure RepL (w : World) (F : Nat → Nat → Prop) (cs : List AV) (us : List Value) : Prop where
  len : cs.length = us.length
  one : ∀ u ∈ us, u.oneCell' = true
  rep : ∀ (j : Nat) (c : AV) (u : Value), cs[j]? = some c → us[j]? = some u → Rep w F c u
theorem RepL.nil : RepL w F [] [] := ⟨rfl, by simp, by simp⟩
theorem RepL.append {cs ds : List AV} {us vs : List Value} (h : RepL w F cs us) (h' : RepL w F ds vs) : RepL w F (cs ++ ds) (us ++ vs) := by
  refine ⟨by simp [h.len, h'.len], fun u hu => (List.mem_append.1 hu).elim (h.one u) (h'.one u), fun j c u hc hu => ?_⟩
  by_cases hj : j < cs.length
  · rw [List.getElem?_append_left hj] at hc
    rw [List.getElem?_append_left (by rw [← h.len]; exact hj)] at hu
    exact h.rep j c u hc hu
  · rw [List.getElem?_append_right (by omega)] at hc
    rw [List.getElem?_append_right (by rw [← h.len]; omega), ← h.len] at hu
    exact h'.rep _ c u hc hu
theorem RepL.take {cs : List AV} {us : List Value} (h : RepL w F cs us) (n : Nat) : RepL w F (cs.take n) (us.take n) := by
  refine ⟨by simp [h.len], fun u hu => h.one u (List.mem_of_mem_take hu), fun j c u hc hu => ?_⟩
  rw [List.getElem?_take] at hc hu
  split at hc
  · rename_i hj
    rw [if_pos hj] at hu
    exact h.rep j c u hc hu
  · cases hc
theorem RepL.drop {cs : List AV} {us : List Value} (h : RepL w F cs us) (n : Nat) : RepL w F (cs.drop n) (us.drop n) := by
  refine ⟨by simp [h.len], fun u hu => h.one u (List.mem_of_mem_drop hu), fun j c u hc hu => ?_⟩
  rw [List.getElem?_drop] at hc hu
  exact h.rep _ c u hc hu
theorem RepL.setR {cs ds : List AV} {us vs : List Value} (h : RepL w F cs us) (h' : RepL w F ds vs) (off : Nat) : RepL w F (setR cs off ds) (us.take off ++ vs ++ us.drop (off + vs.length)) := by
  unfold Av.setR
  rw [h'.len]
  exact ((h.take off).append h').append (h.drop _)
theorem rep_one {x : AV} {v : Value} (h : Rep w F x v) (h1 : x.isOne = true) : v.oneCell' = true := by
  cases h <;> first | exact h1 | rfl | cases h1
theorem repL_one {x : AV} {v : Value} (h : Rep w F x v) (h1 : x.isOne = true) : RepL w F [x] [v] := by
  refine ⟨rfl, fun u hu => ?_, fun j c u hc hu => ?_⟩
  · simp only [List.mem_singleton] at hu; subst hu; exact rep_one h h1
  · match j with
    | 0 => simp only [List.getElem?_cons_zero, Option.some.injEq] at hc hu; subst hc hu; exact h
    | j + 1 => simp at hc
theorem cells_self {v : Value} (h : v.oneCell' = true) : v.cells = #[v] := by
  cases v <;> first | rfl | cases h
theorem rep_cells {x : AV} {v : Value} (h : Rep w F x v) (hc : x.cells.all AV.isOne = true) : RepL w F x.cells v.cells.toList := by
  have one : x.isOne = true → RepL w F [x] v.cells.toList := fun h1 => by
    rw [cells_self (rep_one h h1)]
    exact repL_one h h1
  cases x with
  | agg cs =>
    cases h with
    | agg _ vs hl h1 hr => exact ⟨hl, h1, hr⟩
  | lit u =>
    have hu := rep_lit h
    subst hu
    cases v with
    | agg us =>
      refine ⟨by simp [AV.cells, Value.cells], fun u hu => ?_, fun j c u hj hu => ?_⟩
      · have hu' : u ∈ us.toList := hu
        have := List.all_eq_true.1 hc (.lit u) (List.mem_map.2 ⟨u, hu', rfl⟩)
        exact this
      · have hj' : (us.toList.map AV.lit)[j]? = some c := hj
        have hu' : us.toList[j]? = some u := hu
        rw [List.getElem?_map, hu'] at hj'
        simp only [Option.map_some, Option.some.injEq] at hj'
        subst hj'
        exact .lit u
    | _ => exact one (by simpa [AV.cells] using hc)
  | _ => exact one (by simpa [AV.cells] using hc)
theorem repL_lits {us : List Value} (h1 : (us.map AV.lit).all AV.isOne = true) : RepL w F (us.map .lit) us := by
  refine ⟨by simp, fun u hu => List.all_eq_true.1 h1 (.lit u) (List.mem_map.2 ⟨u, hu, rfl⟩), fun j c u hj hu => ?_⟩
  rw [List.getElem?_map, hu] at hj
  simp only [Option.map_some, Option.some.injEq] at hj
  subst hj
  exact .lit u
theorem pure_of_one {x : AV} (h : x.view.cells.all AV.isOne = true) : x.view.pure = true := by
  cases x with
  | ptr i o => simp [AV.view, AV.cells, AV.isOne] at h
  | dead => simp [AV.view, AV.cells, AV.isOne] at h
  | own i e its => rfl
  | lit u =>
    show (bif isNilV u then AV.sl [] else .lit u).pure = true
    cases isNilV u <;> rfl
  | _ => rfl
theorem fold_set {cells : Array Value} {xs : List Value} {off k : Nat} (h : off + k + xs.length ≤ cells.size) :
    ((xs.zipIdx k).foldl (fun cs (p : Value × Nat) => cs.setIfInBounds (off + p.2) p.1) cells).toList = cells.toList.take (off + k) ++ xs ++ cells.toList.drop (off + k + xs.length) := by
  induction xs generalizing cells k with
  | nil => simp
  | cons x xs ih =>
    simp only [List.zipIdx_cons, List.foldl_cons, List.length_cons] at h ⊢
    rw [ih (by simp; omega)]
    have hlt : off + k < cells.toList.length := by simp; omega
    have e1 : (cells.setIfInBounds (off + k) x).toList = cells.toList.take (off + k) ++ x :: cells.toList.drop (off + k + 1) := by
      rw [Array.toList_setIfInBounds, List.set_eq_take_append_cons_drop, if_pos hlt]
    rw [e1]
    have hl : (cells.toList.take (off + k)).length = off + k := by rw [List.length_take]; omega
    rw [List.take_append, List.drop_append, hl]
    have e2 : off + (k + 1) - (off + k) = 1 := by omega
    have e3 : off + (k + 1) + xs.length - (off + k) = xs.length + 1 := by omega
    rw [e2, e3]
    have e4 : (cells.toList.take (off + k)).take (off + (k + 1)) = cells.toList.take (off + k) := List.take_of_length_le (by rw [hl]; omega)
    have e5 : (cells.toList.take (off + k)).drop (off + (k + 1) + xs.length) = [] := List.drop_eq_nil_of_le (by rw [hl]; omega)
    rw [e4, e5]
    simp only [List.take_succ_cons, List.take_zero, List.drop_succ_cons, List.nil_append, List.drop_drop, List.append_assoc, List.cons_append]
    congr 4
    omega
theorem fill_step {place : Nat → Option (Nat × Nat)} {cells : Array Value} {i off size : Nat} {v : Value} {rest : List (Nat × Value)} (hp : place i = some (off, size)) (h1 : v.cells.size = size) (h2 : off + size ≤ cells.size) :
    ∃ cells' : Array Value, cells'.toList = cells.toList.take off ++ v.cells.toList ++ cells.toList.drop (off + size) ∧ Instr.fill place cells ((i, v) :: rest) = Instr.fill place cells' rest := by
  refine ⟨v.cells.zipIdx.foldl (fun cs (p : Value × Nat) => cs.setIfInBounds (off + p.2) p.1) cells, ?_, ?_⟩
  · have := fold_set (cells := cells) (xs := v.cells.toList) (off := off) (k := 0) (by simp; omega)
    rw [← Array.foldl_toList, Array.toList_zipIdx]
    rw [this]
    simp [h1]
  · show (match place i with | none => none | some (off, size) => _) = _
    rw [hp]
    simp only
    rw [if_neg (by simp [h1]; omega)]
theorem fill_sound {pl : List (Nat × Nat)} (g : Good P N F w0 s a w tok bx) {place : Nat → Option (Nat × Nat)} (hpl : ∀ i p, pl[i]? = some p → place i = some p) : ∀ (parts : List (Nat × Operand)) {cs ds : List AV} {us : Array Value}, RepL w (Wr F tok bx) cs us.toList → abuild pl s.eval parts cs = some ds →
    ∃ vs : Array Value, Instr.fill place us (parts.map fun p => (p.1, a.eval p.2)) = some vs ∧ RepL w (Wr F tok bx) ds vs.toList := by
  intro parts
  induction parts with
  | nil =>
    intro cs ds us h hb
    simp only [abuild, Option.some.injEq] at hb
    subst hb
    exact ⟨us, rfl, h⟩
  | cons p parts ih =>
    obtain ⟨i, x⟩ := p
    intro cs ds us h hb
    simp only [abuild] at hb
    split at hb
    · rename_i off size hp
      split at hb
      · rename_i hc
        obtain ⟨⟨h1, h2⟩, h3⟩ := hc
        have hx := rep_cells ((g.eval x).view (pure_of_one h3)) h3
        have hl := hx.len
        have hsz : (a.eval x).cells.size = size := by rw [← Array.length_toList, ← hl]; exact h1
        have hus : us.size = cs.length := by rw [← Array.length_toList]; exact h.len.symm
        obtain ⟨us', e1, e2⟩ := fill_step (rest := parts.map fun p => (p.1, a.eval p.2)) (hpl i _ hp) hsz (cells := us) (by rw [hus]; exact h2)
        obtain ⟨vs, hv1, hv2⟩ := ih (us := us') (cs := setR cs off (s.eval x).view.cells) (by
          rw [e1]
          have := h.setR hx off
          rw [Array.length_toList, hsz] at this
          exact this) hb
        refine ⟨vs, ?_, hv2⟩
        rw [List.map_cons, e2]
        exact hv1
      · cases hb
    · cases hb
theorem run_zero_some {t : Nat} {z : Value} (h : (P.info? t).map (·.zero) = some (some z)) (w : World) : (zeroValue t).run P w = .ok z w := by
  rw [Option.map_eq_some_iff] at h
  obtain ⟨i, hi, hz⟩ := h
  simp [zeroValue, typeInfo, hi, hz]
theorem s_build {t : TypeId} {parts : Array (Nat × Operand)} {z : Value} {pl : List (Nat × Nat)} {cs : List AV} (ho : o.op = .build t parts) (hT : T.Ok P) (hz : lk? T.zeros t = some z) (h1 : (z.cells.toList.map AV.lit).all AV.isOne = true) (hpl : lk? T.fszs t = some pl) (hb : abuild pl s.eval parts.toList (z.cells.toList.map .lit) = some cs)
    (g : Good P N F w0 s a w tok bx) (hd : ∀ k, o.dst = some k → k < N) (h : K (s.put o.dst (.agg cs))) (hK : ∀ s' a' w', K s' → R P N F w0 s' a' w' → Kc a' w') : o.wp P a w Kc Q := by
  have hzz : (P.info? _).map (·.zero) = some (some z) := hT.zeros _ (lk?_mem hz)
  have hpp : placesOf P t = some pl := hT.fszs _ (lk?_mem hpl)
  obtain ⟨vs, hv1, hv2⟩ := fill_sound (place := fun i => pl.toArray[i]?) g (fun i p h => by simpa using h) parts.toList (repL_lits (w := w) (F := Wr F tok bx) h1) hb
  have hbuilt : P.built t (parts.map fun (i, x) => (i, a.eval x)).toList = some vs := by
    unfold placesOf at hpp
    split at hpp
    · rename_i fs hfs
      rw [Option.map_eq_some_iff] at hzz
      obtain ⟨it, hit, hitz⟩ := hzz
      unfold Program.built
      simp only [hit, hfs, hitz, hpp]
      rw [Array.toList_map]
      exact hv1
    · cases hpp
  refine wp_val (v := .agg vs) (w' := w) ?_ (hK _ _ _ h ⟨tok, bx, g.put hd (.of_rep ?_)⟩)
  · unfold execOp
    simp only [ho]
    rw [Sem.run_bind, run_build w t _ vs hbuilt]
    rfl
  · exact Rep.agg cs vs.toList hv2.len hv2.one hv2.rep
/-- A new variable of the frame's own. -/
theorem Good.newBox {d e : Nat} {cs : List AV} {us : Array Value} (g : Good P N F w0 s a w tok bx) (hd : o.dst = some d) (hdN : d < N) (hr : RepL w (Wr F tok bx) cs us.toList) : R P N F w0 (s.newBox d cs) (a.put o.dst (.pointer (some ⟨w.heap.size, 0, none⟩))) (w.alloc (.cells us e)) := by
  have hb : Below w.heap.size w (w.alloc (.cells us e)) := (Below.refl _ _).alloc (Nat.le_refl _) _
  have hsz : (w.alloc (.cells us e)).heap.size = w.heap.size + 1 := by rw [hp_alloc]; simp
  let bx' : Bx := fun j => if j = d then some w.heap.size else bx j
  have hk : ∀ b o u, ¬ Wr F tok bx b o → w.cell? ⟨b, o, none⟩ = some u → (w.alloc (.cells us e)).cell? ⟨b, o, none⟩ = some u ∧ ¬ Wr F tok bx' b o := by
    intro b o u hn hc
    refine ⟨(hb.cell (p := ⟨_, _, none⟩) (cell_lt hc)).trans hc, ?_⟩
    rintro (h | ⟨j, u', hj, hle⟩ | ⟨j, hj⟩)
    · exact hn (.inl h)
    · exact hn (.inr (.inl ⟨j, u', hj, hle⟩))
    · replace hj : (if j = d then some w.heap.size else bx j) = some b := hj
      split at hj
      · injection hj with hj
        have := cell_lt hc
        omega
      · exact hn (.inr (.inr ⟨j, hj⟩))
  have hda : d < a.tmps.size := by rw [g.size]; exact hdN
  refine ⟨tok, bx', g.below.trans (hb.mono g.below.size), g.hF, size_put.trans g.size, defers_put.trans g.defers, fun id b u ht => ?_, fun id b ht => ?_, g.inj, fun i j b hi hj => ?_, fun i j b u ht hj => ?_, fun t => ?_, fun id bs hbs => ?_⟩
  · have := g.tokB id b u ht; omega
  · replace ht : (if id = d then some w.heap.size else bx id) = some b := ht
    split at ht
    · injection ht with ht
      have := g.below.size
      omega
    · have := g.bxB id b ht; omega
  · replace hi : (if i = d then some w.heap.size else bx i) = some b := hi
    replace hj : (if j = d then some w.heap.size else bx j) = some b := hj
    split at hi <;> split at hj
    · omega
    · injection hi with hi
      have := (g.bxB j b hj).2; omega
    · injection hj with hj
      have := (g.bxB i b hi).2; omega
    · exact g.bxI i j b hi hj
  · replace hj : (if j = d then some w.heap.size else bx j) = some b := hj
    split at hj
    · injection hj with hj
      have := (g.tokB i b u ht).2; omega
    · exact g.apart i j b u ht hj
  · rw [hd, getD_put hda]
    have e1 : (s.newBox d cs).get t = if t = d then .ptr d 0 else (s.get t).unptr d := by
      have : (s.newBox d cs).get t = ((s.unptr d).set d (.ptr d 0)).get t := rfl
      rw [this, AS.get_set, AS.get_unptr]
    rw [e1]
    split
    · exact ⟨w.heap.size, by show (if d = d then _ else _) = _; rw [if_pos rfl], rfl⟩
    · have hs := g.slots t
      cases hx : s.get t with
      | ptr id off =>
        rw [hx] at hs
        obtain ⟨b, h1, h2⟩ := hs
        show SlotRep P _ F tok bx' (bif Nat.beq id d then AV.dead else AV.ptr id off) _
        cases hbq : Nat.beq id d with
        | true => trivial
        | false =>
          have hne : id ≠ d := fun e => by subst e; simp at hbq
          exact ⟨b, by show (if id = d then _ else bx id) = _; rw [if_neg hne]; exact h1, h2⟩
      | own id e' its =>
        rw [hx] at hs
        exact hs.keep hk (fun i e its he => ⟨rfl, fun b u ht => hb.block b (g.tokB i b u ht).2⟩) (fun id o he => by cases he)
      | dead => trivial
      | _ =>
        rw [hx] at hs
        exact hs.keep hk (fun i e its he => by cases he) (fun id o he => by cases he)
  · by_cases hid : id = d
    · subst hid
      have e1 : (s.newBox id cs).getb id = some cs := by
        show (bif Nat.beq id id then some cs else _) = some cs
        simp
      rw [e1] at hbs
      injection hbs with hbs
      subst hbs
      exact ⟨w.heap.size, us, e, by show (if id = id then _ else _) = _; rw [if_pos rfl], heap_alloc_new w _, by rw [← Array.length_toList]; exact hr.len.symm, hr.one, fun j c u hc hu => (hr.rep j c u hc hu).keep hk⟩
    · have e1 : (s.newBox d cs).getb id = s.getb id := by
        show (bif Nat.beq d id then some cs else _) = _
        have : Nat.beq d id = false := by rw [← Bool.not_eq_true]; intro h; exact hid (Nat.eq_of_beq_eq_true h).symm
        rw [this]; rfl
      rw [e1] at hbs
      obtain ⟨b, cur, e', h1, h2, h3, h4, h5⟩ := g.boxes id bs hbs
      exact ⟨b, cur, e', by show (if id = d then _ else bx id) = _; rw [if_neg hid]; exact h1, (hb.block b (g.bxB id b h1).2).trans h2, h3, h4, fun j c u hc hu => (h5 j c u hc hu).keep hk⟩
theorem s_box {e : TypeId} {x : Operand} {d : Nat} (ho : o.op = .box e x) (hod : o.dst = some d) (h1 : (s.eval x).view.cells.all AV.isOne = true) (g : Good P N F w0 s a w tok bx) (hd : ∀ k, o.dst = some k → k < N) (h : K (s.newBox d (s.eval x).view.cells)) (hK : ∀ s' a' w', K s' → R P N F w0 s' a' w' → Kc a' w') : o.wp P a w Kc Q := by
  have hx := rep_cells ((g.eval x).view (pure_of_one h1)) h1
  refine wp_val (v := .pointer (some ⟨w.heap.size, 0, none⟩)) (w' := w.alloc (.cells (a.eval x).cells e)) ?_ (hK _ _ _ h (g.newBox hod (hd d hod) hx))
  unfold execOp
  simp only [ho]
  rfl
theorem s_alloc {e : TypeId} {z : Value} {d : Nat} (ho : o.op = .alloc e) (hT : T.Ok P) (hz : lk? T.zeros e = some z) (hod : o.dst = some d) (h1 : (z.cells.toList.map AV.lit).all AV.isOne = true) (g : Good P N F w0 s a w tok bx) (hd : ∀ k, o.dst = some k → k < N) (h : K (s.newBox d (z.cells.toList.map .lit))) (hK : ∀ s' a' w', K s' → R P N F w0 s' a' w' → Kc a' w') : o.wp P a w Kc Q := by
  have hx := repL_lits (w := w) (F := Wr F tok bx) h1
  have hzz : (P.info? _).map (·.zero) = some (some z) := hT.zeros _ (lk?_mem hz)
  refine wp_val (v := .pointer (some ⟨w.heap.size, 0, none⟩)) (w' := w.alloc (.cells z.cells e)) ?_ (hK _ _ _ h (g.newBox hod (hd d hod) hx))
  unfold execOp
  simp only [ho]
  rw [Sem.run_bind]
  simp only [Instr.alloc, Sem.run_bind, run_zero_some hzz, Result.andThen_ok]
  rfl
theorem s_store {t : TypeId} {p x : Operand} {id off : Nat} {bs : List AV} {z : Option Nat} (ho : o.op = .store t p x) (hT : T.Ok P) (hp : s.eval p = .ptr id off) (hz : lk? T.szs t = some z) (hbs : s.getb id = some bs) (h1 : (s.eval x).view.cells.all AV.isOne = true) (hl : (s.eval x).view.cells.length = szN z) (hfit : off + szN z ≤ bs.length)
    (g : Good P N F w0 s a w tok bx) (hd : ∀ k, o.dst = some k → k < N) (h : K ((s.setb id (setR bs off (s.eval x).view.cells)).put o.dst .dead)) (hK : ∀ s' a' w', K s' → R P N F w0 s' a' w' → Kc a' w') : o.wp P a w Kc Q := by
  have hx := rep_cells ((g.eval x).view (pure_of_one h1)) h1
  have hpe := g.eval p
  rw [hp] at hpe
  obtain ⟨b, hb, hpv⟩ := hpe
  obtain ⟨b', cur, e, hb', hblk, hcs, hone, hrep⟩ := g.boxes id bs hbs
  rw [hb] at hb'
  injection hb' with hb'
  subst hb'
  have hbB := g.bxB id b hb
  have hsz : (P.info? t).map (·.size) = some (szN z) := by
    have := hT.szs _ (lk?_mem hz)
    unfold okSz at this
    cases z <;> exact this.2
  have hvl : (a.eval x).cells.size = szN z := by rw [← Array.length_toList, ← hx.len]; exact hl
  have hst := storeCells_row P (vs := (a.eval x).cells.toList) (o := off) hblk (by rw [Array.length_toList, hvl, hcs]; exact hfit) hx.one
  have hrun' : (storeCells ⟨b, off, none⟩ (a.eval x).cells.toList 0).run P w = .ok () (w.setRow b (cur.toList.take off ++ (a.eval x).cells.toList ++ cur.toList.drop (off + (a.eval x).cells.toList.length)).toArray) := by
    have := run_storeCells_at P b off e (a.eval x).cells.toList 0 cur w hblk (by rw [Array.length_toList, hvl, hcs]; simpa using hfit) hx.one
    simpa using this
  have hk : ∀ b' o' u, ¬ Wr F tok bx b' o' → w.cell? ⟨b', o', none⟩ = some u → (w.setRow b (cur.toList.take off ++ (a.eval x).cells.toList ++ cur.toList.drop (off + (a.eval x).cells.toList.length)).toArray).cell? ⟨b', o', none⟩ = some u ∧ ¬ Wr F tok bx b' o' := by
    intro b' o' u hn hc
    have hne : b' ≠ b := fun e => hn (.inr (.inr ⟨id, by rw [e]; exact hb⟩))
    exact ⟨(cell_setRow_other w b _ ⟨b', o', none⟩ hne).trans hc, hn⟩
  have hblk' := setRow_heap w b cur (cur.toList.take off ++ (a.eval x).cells.toList ++ cur.toList.drop (off + (a.eval x).cells.toList.length)).toArray e (0, 0) hblk
  have hoth : ∀ k, k ≠ b → (w.setRow b (cur.toList.take off ++ (a.eval x).cells.toList ++ cur.toList.drop (off + (a.eval x).cells.toList.length)).toArray).heap[k]? = w.heap[k]? := fun k hk => setRow_other w b k _ hk
  have hsize : (w.setRow b (cur.toList.take off ++ (a.eval x).cells.toList ++ cur.toList.drop (off + (a.eval x).cells.toList.length)).toArray).heap.size = w.heap.size := by simp [World.setRow]
  have hL : RepL w (Wr F tok bx) bs cur.toList := ⟨by rw [Array.length_toList]; exact hcs.symm, hone, hrep⟩
  have hL' := hL.setR hx off
  have hskip : o.wp P a w Kc Q = Kc (a.put o.dst undef) (w.setRow b (cur.toList.take off ++ (a.eval x).cells.toList ++ cur.toList.drop (off + (a.eval x).cells.toList.length)).toArray) := by
    unfold Oper.wp
    have : (execOp a.eval o).run P w = .ok .skip (w.setRow b (cur.toList.take off ++ (a.eval x).cells.toList ++ cur.toList.drop (off + (a.eval x).cells.toList.length)).toArray) := by
      unfold execOp
      simp only [ho, hpv]
      rw [Sem.run_bind]
      simp only [Instr.storeAt, Instr.sureAddr, storeVar, Sem.run_bind, Sem.run_pure, Result.andThen_ok, run_size_some hsz, hvl, ne_eq, not_true_eq_false, if_false, hrun']
    rw [this, Oper.upon_skip]
  rw [hskip]
  refine hK _ _ _ h ⟨tok, bx, Good.put ?_ hd trivial⟩
  refine ⟨⟨g.below.os, g.below.tape, g.below.output, by rw [hsize]; exact g.below.size, fun k hk => (hoth k (by omega)).trans (g.below.block k hk)⟩, g.hF, g.size, g.defers, fun i b u ht => by rw [hsize]; exact g.tokB i b u ht, fun i b ht => by rw [hsize]; exact g.bxB i b ht, g.inj, g.bxI, g.apart, fun t => ?_, fun i cs hcs => ?_⟩
  · exact (g.slots t).keep hk (fun i e its he => ⟨rfl, fun b' u ht => hoth b' fun e => g.apart i id b' u ht (by rw [e]; exact hb)⟩) fun _ _ _ => rfl
  · by_cases hid : i = id
    · subst hid
      have e1 : (s.setb i (setR bs off (s.eval x).view.cells)).getb i = some (setR bs off (s.eval x).view.cells) := by
        show (bif Nat.beq i i then some _ else _) = some _
        simp
      rw [e1] at hcs
      injection hcs with hcs
      subst hcs
      refine ⟨b, _, e, hb, hblk', ?_, ?_, fun j c u hc hu => ?_⟩
      · rw [hL'.len]; simp
      · simpa using hL'.one
      · exact (hL'.rep j c u hc (by simpa using hu)).keep hk
    · have e1 : (s.setb id (setR bs off (s.eval x).view.cells)).getb i = s.getb i := by
        show (bif Nat.beq id i then some _ else _) = _
        have : Nat.beq id i = false := by rw [← Bool.not_eq_true]; intro h; exact hid (Nat.eq_of_beq_eq_true h).symm
        rw [this]; rfl
      rw [e1] at hcs
      obtain ⟨b', cur', e', h1, h2, h3, h4, h5⟩ := g.boxes i cs hcs
      have hne : b' ≠ b := fun e => hid (g.bxI i id b' h1 (by rw [e]; exact hb))
      exact ⟨b', cur', e', h1, (hoth b' hne).trans h2, h3, h4, fun j c u hc hu => (h5 j c u hc hu).keep hk⟩
theorem fill_row {size : Nat} (g : Good P N F w0 s a w tok bx) : ∀ (parts : List (Nat × Operand)) (k : Nat) {A : List AV} {us : Array Value}, parts.map (·.1) = List.range' k parts.length → us.size = (k + parts.length) * size → RepL w (Wr F tok bx) A (us.toList.take (k * size)) →
    (∀ it ∈ bsItems s.eval parts, it.length = size ∧ it.all AV.isOne = true) →
    ∃ vs : Array Value, Instr.fill (fun i => some (i * size, size)) us (parts.map fun p => (p.1, a.eval p.2)) = some vs ∧ RepL w (Wr F tok bx) (A ++ (bsItems s.eval parts).flatten) vs.toList := by
  intro parts
  induction parts with
  | nil =>
    intro k A us _ hs hA _
    refine ⟨us, rfl, ?_⟩
    have : us.toList.take (k * size) = us.toList := List.take_of_length_le (by rw [Array.length_toList, hs]; simp)
    rw [this] at hA
    simpa [bsItems] using hA
  | cons p parts ih =>
    obtain ⟨i, x⟩ := p
    intro k A us hix hs hA hit
    rw [List.map_cons, List.length_cons, List.range'_succ] at hix
    injection hix with h0 hix
    simp only at h0
    subst h0
    obtain ⟨h1, h2⟩ := hit _ (by simp only [bsItems, List.map_cons]; exact List.mem_cons_self)
    have hx := rep_cells ((g.eval x).view (pure_of_one h2)) h2
    have hsz : (a.eval x).cells.size = size := by rw [← Array.length_toList, ← hx.len]; exact h1
    have hfit : i * size + size ≤ us.size := by
      rw [hs, ← Nat.succ_mul]
      exact Nat.mul_le_mul_right _ (by simp)
    obtain ⟨us', e1, e2⟩ := fill_step (place := fun i => some (i * size, size)) (rest := parts.map fun p => (p.1, a.eval p.2)) (i := i) rfl hsz (cells := us) hfit
    have hl0 : (us.toList.take (i * size)).length = i * size := by rw [List.length_take, Array.length_toList]; omega
    have ht : us'.toList.take ((i + 1) * size) = us.toList.take (i * size) ++ (a.eval x).cells.toList := by
      rw [e1]
      exact List.take_left' (by rw [List.length_append, hl0, Array.length_toList, hsz, Nat.succ_mul])
    have hs' : us'.size = (i + 1 + parts.length) * size := by
      have h3 : us'.toList.length = us.size := by
        rw [e1]
        simp only [List.length_append, List.length_take, List.length_drop, Array.length_toList, hsz]
        omega
      rw [← Array.length_toList, h3, hs, List.length_cons]
      congr 1
      omega
    obtain ⟨vs, hv1, hv2⟩ := ih (i + 1) (A := A ++ (s.eval x).view.cells) (us := us') hix hs' (by rw [ht]; exact hA.append hx) (fun it h => hit it (by simp only [bsItems, List.map_cons] at h ⊢; exact List.mem_cons_of_mem _ h))
    refine ⟨vs, ?_, ?_⟩
    · rw [List.map_cons, e2]; exact hv1
    · have : (A ++ (bsItems s.eval ((i, x) :: parts)).flatten) = (A ++ (s.eval x).view.cells) ++ (bsItems s.eval parts).flatten := by simp [bsItems]
      rw [this]; exact hv2
theorem s_bslice {t : TypeId} {n : Nat} {parts : Array (Nat × Operand)} {I : SlI} {d : Nat} (ho : o.op = .buildSlice t n parts) (hT : T.Ok P) (hI : lk? T.sls t = some I) (hod : o.dst = some d) (hix : parts.toList.map (·.1) = List.range n) (hn : n * I.size ≤ 16777216) (hit : ∀ it ∈ bsItems s.eval parts.toList, it.length = I.size ∧ it.all AV.isOne = true)
    (g : Good P N F w0 s a w tok bx) (hd : ∀ k, o.dst = some k → k < N) (h : K ((s.deown d).set d (.own d I.e (bsItems s.eval parts.toList)))) (hK : ∀ s' a' w', K s' → R P N F w0 s' a' w' → Kc a' w') : o.wp P a w Kc Q := by
  have E := sls_ok hT hI
  obtain ⟨hu, ⟨i, hi, hz, hsi, hby⟩, hzs, hsz, hbp⟩ := E
  have hpl : parts.toList.length = n := by
    have := congrArg List.length hix
    simpa using this
  have hszP : szOf P I.e = I.size := by simp [szOf, hi, hsi]
  -- the cells
  obtain ⟨vs, hfill, hvs⟩ : ∃ vs : Array Value, (Instr.buildSlice t n (parts.map fun (i, x) => (i, a.eval x))).run P w = .ok (.slice (some ⟨w.heap.size, 0, none⟩) n n) (w.alloc (.cells vs I.e)) ∧ RepL w (Wr F tok bx) (bsItems s.eval parts.toList).flatten vs.toList := by
    by_cases h0 : n = 0
    · subst h0
      have hp0 : parts = #[] := Array.toList_inj.1 (List.eq_nil_of_length_eq_zero hpl)
      subst hp0
      refine ⟨#[], ?_, RepL.nil⟩
      simp [Instr.buildSlice, run_underlying hu, sizeOf, typeInfo, hi, Instr.fill, newRow, Array.range_zero']
    · obtain ⟨vs, h1, h2⟩ := fill_row (size := I.size) (A := []) g parts.toList 0 (us := (Array.range (n * I.size)).map (I.zero.cells[· % I.zero.cells.size]!)) (by rw [hpl, hix, List.range_eq_range']) (by simp [hpl]) (by simpa using RepL.nil) hit
      refine ⟨vs, ?_, by simpa using h2⟩
      have hpos : ¬ n * I.size = 0 := by
        intro h
        rcases Nat.mul_eq_zero.1 h with h | h <;> omega
      refine run_buildSlice w t I.e n _ vs i I.zero hu hi hz (by rw [hsi]; omega) (by rw [hsi]; exact hpos) ?_
      rw [hsi, Array.toList_map]
      exact h1
  have hlen : (bsItems s.eval parts.toList).length = n := by unfold bsItems; rw [List.length_map]; exact hpl
  have hfl := flatten_len (fun it h => (hit it h).1)
  have hvsz : vs.size = n * I.size := by rw [← Array.length_toList, ← hvs.len, hfl, hlen]
  have hb : Below w.heap.size w (w.alloc (.cells vs I.e)) := (Below.refl _ _).alloc (Nat.le_refl _) _
  have hhs : (w.alloc (.cells vs I.e)).heap.size = w.heap.size + 1 := by rw [hp_alloc]; simp
  have g1 := (g.world hb).deown d
  have hblk : (w.alloc (.cells vs I.e)).heap[w.heap.size]? = some (.cells vs I.e (0, 0)) := heap_alloc_new w _
  have g2 := g1.retok (some (w.heap.size, n * I.size)) (fun b u hbu => by
    injection hbu with hbu
    injection hbu with e1 e2
    subst e1 e2
    refine ⟨g.below.size, by omega, fun j u' _ hj => ?_, fun j hj => ?_, fun o v hc hle => ?_⟩
    · have := (g.tokB j _ u' hj).2; omega
    · have := (g.bxB j _ hj).2; omega
    · exfalso
      have h1 := (Array.getElem?_eq_some_iff.1 (show vs[o]? = some v by unfold World.cell? at hc; simp only [hblk] at hc; simpa using hc)).1
      omega)
  have hcap : n ≤ maxLen := by
    have := Nat.le_mul_of_pos_right n hsz
    simp only [maxLen]; omega
  have hrow : (w.alloc (.cells vs I.e)).ownsRow w0.heap.size I.e I.size (.slice (some ⟨w.heap.size, 0, none⟩) n n) n vs.toList := by
    refine ⟨by rw [Array.length_toList]; exact hvsz, .inr ⟨_, n, vs, rfl, g.below.size, hblk, Nat.le_refl _, hcap, hvsz, ?_⟩⟩
    exact List.take_of_length_le (by rw [Array.length_toList, hvsz]; exact Nat.le_refl _)
  have hkk : ∀ b o u, ¬ Wr F tok bx b o → w.cell? ⟨b, o, none⟩ = some u → (w.alloc (.cells vs I.e)).cell? ⟨b, o, none⟩ = some u ∧ ¬ Wr F (fun j => if j = d then some (w.heap.size, n * I.size) else tok j) bx b o := by
    intro b o u hn hc
    refine ⟨(hb.cell (p := ⟨_, _, none⟩) (cell_lt hc)).trans hc, ?_⟩
    rintro (h | ⟨j, u', hj, hle⟩ | ⟨j, hj⟩)
    · exact hn (.inl h)
    · replace hj : (if j = d then some (w.heap.size, n * I.size) else tok j) = some (b, u') := hj
      split at hj
      · injection hj with hj
        injection hj with e1 e2
        have := cell_lt hc
        omega
      · exact hn (.inr (.inl ⟨j, u', hj, hle⟩))
    · exact hn (.inr (.inr ⟨j, hj⟩))
  have hown : SlotRep P (w.alloc (.cells vs I.e)) F (fun j => if j = d then some (w.heap.size, n * I.size) else tok j) bx (.own d I.e (bsItems s.eval parts.toList)) (.slice (some ⟨w.heap.size, 0, none⟩) n n) := by
    refine ⟨rep_of_own hrow hlen (fun it h => (hit it h).1) hvs.one (fun j x u hx hu => (hvs.rep j x u hx hu).keep hkk) (fun b hb o ho => ?_), ?_, .inr ⟨w.heap.size, n, vs, by rw [hlen], ?_, hblk, by rw [hszP]; exact hvsz, by rw [hlen]; exact Nat.le_refl _, hcap⟩⟩
    · injection hb with hb
      subst hb
      rintro (h | ⟨j, u', hj, hle⟩ | ⟨j, hj⟩)
      · have := g.hF _ o h
        have := g.below.size
        simp only at *
        omega
      · replace hj : (if j = d then some (w.heap.size, n * I.size) else tok j) = some (_, u') := hj
        split at hj
        · injection hj with hj
          injection hj with e1 e2
          omega
        · have := (g.tokB j _ u' hj).2
          simp only at this
          omega
      · have := (g.bxB j _ hj).2
        simp only at this
        omega
    · rw [hszP]; exact fun it h => (hit it h).1
    · show (if d = d then _ else _) = _
      rw [if_pos rfl, hlen, hszP]
  refine wp_val (v := .slice (some ⟨w.heap.size, 0, none⟩) n n) (w' := w.alloc (.cells vs I.e)) ?_ (hK _ _ _ h ⟨fun j => if j = d then some (w.heap.size, n * I.size) else tok j, bx, ?_⟩)
  · unfold execOp
    simp only [ho]
    rw [Sem.run_bind, hfill]
    rfl
  · rw [hod]
    exact g2.put (d := some d) (fun k hk => hd k (by rw [hod]; exact hk)) hown
end
end Go.Proofs.Ytpemfmlonamikaa.Av
