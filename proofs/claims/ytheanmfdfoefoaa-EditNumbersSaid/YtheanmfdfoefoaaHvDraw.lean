/- Abstract values: regions that draw their order: readings may come early, what changes the heap stands in a row. Plain: over any program. -/
import Derived.Test.YtheanmfdfoefoaaHvRun
import Derived.Orders
set_option linter.unusedVariables false
set_option linter.unusedSimpArgs false
namespace Go.Proofs.Ytheanmfdfoefoaa.Hv
open Go Go.RowKit

def namesOf (all : List Oper) (o : Oper) : List Nat :=
  (o.op.operands.toList.filterMap fun | .tmp t => some t | _ => none) ++ (match o.guard with | none => [] | some (j, _) => (((all[j]?).bind (·.dst)).toList))
/-- An operation that only reads (or lays things that nobody writes). -/
def isR (T : Tbl) (o : Oper) : Bool := match o.op with
  | .move _ | .pick .. | .binOp .. | .unOp .. | .load .. | .fieldAddr .. | .indexAddr .. | .index .. | .lookup .. | .build .. | .extract .. | .slice _ _ _ _ none | .nilCheck _ | .makeFunc .. | .entry _ | .buildSlice .. => true
  | .convert t0 t _ => !(T.strs.elem t0 && T.byts.elem t)
  | .call c => match c.callee with | .builtin .len | .builtin .min | .builtin .max => true | _ => false
  | _ => false
/-- Does its value depend on the heap? -/
def heapR (o : Oper) : Bool := match o.op with
  | .move _ | .pick .. | .binOp .. | .unOp .. | .fieldAddr .. | .index .. | .build .. | .extract .. | .slice .. | .nilCheck _ | .makeFunc .. | .buildSlice .. => false
  | .call c => match c.callee with | .builtin .min | .builtin .max => false | _ => true
  | _ => true
def dval (T : Tbl) (s : AS) (o : Oper) : Option AV := match o.op with
  | .buildSlice t n parts => match lk? T.sls t with
    | some I => if parts.toList.map (·.1) = List.range n ∧ n * I.size ≤ 16777216 ∧ ∀ it ∈ bsItems s.eval parts.toList, it.length = I.size ∧ it.all AV.isOne = true then some (.sl (bsItems s.eval parts.toList)) else none
    | none => none
  | op => fval T s.heap op s.eval
def gdval (T : Tbl) (all : List Oper) (s : AS) (o : Oper) : Option AV := match gsem all s o with
  | some true => dval T s o
  | some false => some .skip
  | none => none
def dstD (o : Oper) (s : AS) : AV := match o.dst with | some d => s.get d | none => .dead
/-- What an allocation that asks the heap for nothing lays, and its value at a number. -/
def newOf (T : Tbl) (A : Vis) (o : Oper) (ρ : Operand → AV) : Option (Nat × AO × (Nat → AV)) := match o.op with
  | .alloc e => match o.dst, lk? T.zeros e with
    | some d, some z => if (zeroA z).all AV.isOne = true then some (d, .cells (zeroA z), fun id => .ptr id 0) else none
    | _, _ => none
  | .makeSlice t l c => match o.dst, lk? T.sls t, (ρ l).int?, (ρ c).int? with
    | some d, some I, some (_, l), some (_, c) => if (0 ≤ l ∧ l ≤ c ∧ I.bytes * c ≤ 140737488355328) ∧ (zeroA I.zero).all AV.isOne = true then some (d, .row (A.muts.elem d) I.e (List.replicate l.toNat (zeroA I.zero)), fun id => .rw id I.size 0 l.toNat) else none
    | _, _, _, _ => none
  | _ => none
def isNew (o : Oper) : Bool := match o.op with
  | .alloc _ | .makeSlice .. => true
  | _ => false
section
variable (P : Program) (T : Tbl) (A : Vis)
/-- Allocations that may be done early are sure to go well. -/
def annOk (all : List Oper) (s : AS) : List Nat → Prop
  | [] => True
  | k :: r => (match all[k]? with | some o => (newOf T A o s.eval).isSome = true | none => False) ∧ annOk all s r
/-- What an operation makes of the heap, and its value. -/
def eff1 (o : Oper) (s : AS) (KK : Hp → Nat → AV → Prop) : Prop :=
  match fop T A o s with
  | some s' => KK s'.heap s'.next (dstD o s')
  | none => match o.op with
    | .call c => match callee? s c with
      | some (f, as) => (∃ res, ACalls P f (as.map (AV.view s.heap)) res ∧ KK s.heap s.next res) ∨ ∃ Post, HCalls P f as s.heap s.next Post ∧ ∀ res H' n', Post res H' n' → KK H' n' res
      | none => False
    | _ => False
def geff (all : List Oper) (o : Oper) (s : AS) (KK : Hp → Nat → AV → Prop) : Prop := match gsem all s o with
  | some true => eff1 P T A o s KK
  | some false => KK s.heap s.next .skip
  | none => False
def pinsOk (all : List Oper) (s : AS) : List Nat → Prop
  | [] => True
  | i :: r => (match all[i]? with | some o => gdval T all s o = some (dstD o s) | none => False) ∧ pinsOk all s r
def rkD (all : List Oper) : List (Nat × List Nat × List Nat) → AS → (AS → Prop) → Prop
  | [], s, K => K s
  | (i, pins, _) :: r, s, K => match all[i]? with
    | some o => bif isR T o then (match gdval T all s o with
      | some v => (match pins with
        | [] => rkD all r (s.put o.dst v) K
        | k :: ks => annOk T A all (s.put o.dst v) (k :: ks) ∧ rkD all r (s.put o.dst v) K)
      | none => False) else geff P T A all o s fun H' n' v => pinsOk T all ((⟨s.env, H', n'⟩ : AS).put o.dst v) pins ∧ rkD all r ((⟨s.env, H', n'⟩ : AS).put o.dst v) K
    | none => False
end
section
variable {P : Program} {T : Tbl} {A : Vis} {N : Nat} {F : Nat → Nat → Prop} {w0 w w' : World} {gb0 gb gb' : Gb} {H0 H H' : Hp} {s s' s1 : AS} {a : Act} {n n' : Nat} {o : Oper} {K : Act → World → Prop} {Q : Exit → Act → World → Prop}
theorem R.ext (h : R P N F w0 gb0 H0 s a w) (hh : s'.heap = s.heap) (hn : s'.next = s.next) (hg : ∀ t, s'.get t = s.get t ∨ s'.get t = .dead) : R P N F w0 gb0 H0 s' a w := by
  obtain ⟨gb, g⟩ := h
  refine ⟨gb, g.kept, g.ext, by rw [hh, hn]; exact g.ok, by rw [hh]; exact g.wr0, by rw [hh]; exact g.x0, g.size, g.defers, fun t => ?_⟩
  rw [hh]
  rcases hg t with h | h <;> rw [h]
  · exact g.slots t
  · exact .dead _
theorem get_put (s : AS) (d : Option Nat) (v : AV) (t : Nat) : (s.put d v).get t = if d = some t then v else s.get t := by
  cases d with
  | none => simp [AS.put]
  | some d =>
    show (s.set d v).get t = _
    rw [AS.get_set]
    by_cases h : t = d
    · subst h; simp
    · rw [if_neg h, if_neg (by intro e; injection e with e; exact h e.symm)]
/-! ### what depends on what -/
theorem eval_agree {all : List Oper} (h : ∀ t ∈ namesOf all o, s1.get t = s.get t) : ∀ x ∈ o.op.operands, s1.eval x = s.eval x := by
  intro x hx
  cases x with
  | tmp t =>
    refine h t ?_
    unfold namesOf
    rw [List.mem_append]
    left
    rw [List.mem_filterMap]
    exact ⟨.tmp t, by simpa using hx, rfl⟩
  | _ => rfl
theorem gsem_agree {all : List Oper} (h : ∀ t ∈ namesOf all o, s1.get t = s.get t) : gsem all s1 o = gsem all s o := by
  unfold gsem
  cases hg : o.guard with
  | none => rfl
  | some jw =>
    obtain ⟨j, want⟩ := jw
    simp only
    cases hd : (all[j]?).bind (·.dst) with
    | none => rfl
    | some d =>
      simp only [Option.bind_some]
      rw [h d (by unfold namesOf; rw [List.mem_append]; right; simp only [hg, hd]; simp)]
theorem abuild_local {pl : List (Nat × Nat)} {ρ ρ' : Operand → AV} : ∀ (parts : List (Nat × Operand)) (cs : List AV), (∀ p ∈ parts, ρ p.2 = ρ' p.2) → abuild pl ρ parts cs = abuild pl ρ' parts cs := by
  intro parts
  induction parts with
  | nil => intro cs _; rfl
  | cons p parts ih =>
    obtain ⟨i, x⟩ := p
    intro cs h
    have h0 := h (i, x) (by simp)
    simp only at h0
    simp only [abuild, h0]
    split
    · split
      · exact ih _ fun p hp => h p (by simp [hp])
      · rfl
    · rfl
theorem fval_local {op : Op} {ρ ρ' : Operand → AV} (hρ : ∀ x ∈ op.operands, ρ' x = ρ x) : fval T H op ρ' = fval T H op ρ := by
  cases op with
  | build t parts =>
    unfold fval
    have e : ∀ (pl : List (Nat × Nat)) (cs : List AV), abuild pl ρ' parts.toList cs = abuild pl ρ parts.toList cs := fun pl cs => abuild_local parts.toList cs fun p hp => hρ p.2 (by simp only [Op.operands]; simpa using ⟨p.1, by simpa using hp⟩)
    simp only [e]
  | slice t x lo hi mx =>
    unfold fval
    cases mx with
    | some m => rfl
    | none =>
      have e1 : lo.map ρ' = lo.map ρ := by
        cases lo with
        | none => rfl
        | some y => simp only [Option.map_some]; rw [hρ y (by simp [Op.operands])]
      have e2 : hi.map ρ' = hi.map ρ := by
        cases hi with
        | none => rfl
        | some y => simp only [Option.map_some]; rw [hρ y (by simp [Op.operands])]
      simp only [hρ x (by simp [Op.operands]), e1, e2]
  | makeFunc fn first caps =>
    unfold fval
    cases fn with
    | func f =>
      have e : litArgs ρ' caps = litArgs ρ caps := by
        unfold litArgs
        exact List.map_congr_left fun x hx => hρ x (by simp only [Op.operands]; rw [Array.mem_append]; exact .inr (by simpa using hx))
      simp only [e]
    | _ => rfl
  | call c =>
    have hargs : ∀ x ∈ c.args.toList, ρ' x = ρ x := fun x hx => hρ x (by
      show x ∈ c.operands
      unfold Call.operands
      rw [Array.mem_append]
      exact .inr (by simpa using hx))
    unfold fval
    simp only
    split
    · rename_i x t ts hc hx ht
      rw [hargs x (by rw [hx]; exact List.mem_cons_self)]
    · rename_i hx
      rw [hargs _ (by rw [hx]; exact List.mem_cons_self), hargs _ (by rw [hx]; exact List.mem_cons_of_mem _ List.mem_cons_self)]
    · rename_i hx
      rw [hargs _ (by rw [hx]; exact List.mem_cons_self), hargs _ (by rw [hx]; exact List.mem_cons_of_mem _ List.mem_cons_self)]
    · rfl
  | move x => unfold fval; simp only [hρ x (by simp [Op.operands])]
  | assign x => unfold fval; simp only [hρ x (by simp [Op.operands])]
  | pick c x y => unfold fval; simp only [hρ c (by simp [Op.operands]), hρ x (by simp [Op.operands]), hρ y (by simp [Op.operands])]
  | binOp op _ x y _ => unfold fval; simp only [hρ x (by simp [Op.operands]), hρ y (by simp [Op.operands])]
  | unOp op _ x => unfold fval; simp only [hρ x (by simp [Op.operands])]
  | load _ x => unfold fval; simp only [hρ x (by simp [Op.operands])]
  | fieldAddr _ x _ => unfold fval; simp only [hρ x (by simp [Op.operands])]
  | indexAddr _ x y => unfold fval; simp only [hρ x (by simp [Op.operands]), hρ y (by simp [Op.operands])]
  | index _ x y => unfold fval; simp only [hρ x (by simp [Op.operands]), hρ y (by simp [Op.operands])]
  | lookup _ x y _ => unfold fval; simp only [hρ x (by simp [Op.operands]), hρ y (by simp [Op.operands])]
  | extract x _ => unfold fval; simp only [hρ x (by simp [Op.operands])]
  | convert _ _ x => unfold fval; simp only [hρ x (by simp [Op.operands])]
  | nilCheck x => unfold fval; simp only [hρ x (by simp [Op.operands])]
  | entry x => unfold fval; simp only [hρ x (by simp [Op.operands])]
  | _ => rfl
theorem fval_cold {ρ : Operand → AV} (h : heapR o = false) : fval T H' o.op ρ = fval T H o.op ρ := by
  unfold heapR at h
  cases hop : o.op with
  | call c =>
    rw [hop] at h
    unfold fval
    simp only at h ⊢
    generalize c.args.toList = l1
    generalize c.argTypes.toList = l2
    split at h
    · rename_i hc; rw [hc]; rcases l1 with _ | ⟨x, _ | ⟨y, _ | ⟨z, l⟩⟩⟩ <;> rfl
    · rename_i hc; rw [hc]; rcases l1 with _ | ⟨x, _ | ⟨y, _ | ⟨z, l⟩⟩⟩ <;> rfl
    · cases h
  | makeFunc fn first caps => unfold fval; cases fn <;> rfl
  | slice t x lo hi mx => unfold fval; cases mx <;> rfl
  | _ => first | rfl | (rw [hop] at h; cases h)
theorem bs_local {ρ ρ' : Operand → AV} {parts : List (Nat × Operand)} (h : ∀ p ∈ parts, ρ' p.2 = ρ p.2) : bsItems ρ' parts = bsItems ρ parts := by
  unfold bsItems
  exact List.map_congr_left fun p hp => by rw [h p hp]
theorem dval_agree {all : List Oper} (h : ∀ t ∈ namesOf all o, s1.get t = s.get t) (hh : s1.heap = s.heap ∨ heapR o = false) : dval T s1 o = dval T s o := by
  have he := eval_agree h
  have hf : fval T s1.heap o.op s1.eval = fval T s.heap o.op s.eval := by
    rw [fval_local he]
    rcases hh with hh | hh
    · rw [hh]
    · exact fval_cold hh
  unfold dval
  cases hop : o.op with
  | buildSlice t m parts =>
    simp only
    have : bsItems s1.eval parts.toList = bsItems s.eval parts.toList := bs_local fun p hp => he p.2 (by rw [hop]; simp only [Op.operands]; simpa using ⟨p.1, by simpa using hp⟩)
    rw [this]
  | _ => rw [hop] at hf; exact hf
theorem gdval_agree {all : List Oper} (h : ∀ t ∈ namesOf all o, s1.get t = s.get t) (hh : s1.heap = s.heap ∨ heapR o = false) : gdval T all s1 o = gdval T all s o := by
  unfold gdval
  rw [gsem_agree h, dval_agree h hh]
/-! ### readings are right -/
theorem run_bs {t : TypeId} {m : Nat} {parts : Array (Nat × Operand)} {I : SlI} (hT : T.Ok P) (hI : lk? T.sls t = some I) (hix : parts.toList.map (·.1) = List.range m) (hn : m * I.size ≤ 16777216) (hit : ∀ it ∈ bsItems s.eval parts.toList, it.length = I.size ∧ it.all AV.isOne = true) (g : Good P N F w0 gb0 H0 s a w gb) :
    ∃ vs : Array Value, (Instr.buildSlice t m (parts.map fun (i, x) => (i, a.eval x))).run P w = .ok (.slice (some ⟨w.heap.size, 0, none⟩) m m) (w.alloc (.cells vs I.e)) ∧ RepL w (Wr F gb s.heap) gb (bsItems s.eval parts.toList).flatten vs.toList ∧ (bsItems s.eval parts.toList).length = m := by
  obtain ⟨hu, ⟨i, hi, hz, hsi, hby⟩, hzs, hsz, hbp⟩ := sls_ok hT hI
  have hpl : parts.toList.length = m := by
    have := congrArg List.length hix
    simpa using this
  have hlen : (bsItems s.eval parts.toList).length = m := by unfold bsItems; rw [List.length_map]; exact hpl
  by_cases h0 : m = 0
  · subst h0
    have hp0 : parts = #[] := Array.toList_inj.1 (List.eq_nil_of_length_eq_zero hpl)
    subst hp0
    refine ⟨#[], ?_, RepL.nil, rfl⟩
    simp [Instr.buildSlice, run_underlying hu, sizeOf, typeInfo, hi, Instr.fill, newRow, Array.range_zero']
  · obtain ⟨vs, h1, h2⟩ := fill_row (size := I.size) (B := []) g parts.toList 0 (us := (Array.range (m * I.size)).map (I.zero.cells[· % I.zero.cells.size]!)) (by rw [hpl, hix, List.range_eq_range']) (by simp [hpl]) (by simpa using RepL.nil) hit
    refine ⟨vs, ?_, by simpa using h2, hlen⟩
    have hpos : ¬ m * I.size = 0 := by
      intro h
      rcases Nat.mul_eq_zero.1 h with h | h <;> omega
    refine run_buildSlice w t I.e m _ vs i I.zero hu hi hz (by rw [hsi]; omega) (by rw [hsi]; exact hpos) ?_
    rw [hsi, Array.toList_map]
    exact h1
theorem wr_lt (h : HeapOk P w F gb H n) {b o : Nat} (hw : Wr F gb H b o) : b < w.heap.size := by
  rcases hw with h' | ⟨id, t, hg, _⟩
  · exact h.FB b o h'
  · exact (h.lt id b t hg).2
theorem dval_sound {v : AV} (hT : T.Ok P) (h : dval T s o = some v) (g : Good P N F w0 gb0 H0 s a w gb) (hd : ∀ k, o.dst = some k → k < N) (hK : ∀ a' w', R P N F w0 gb0 H0 (s.put o.dst v) a' w' → K a' w') : o.wp P a w K Q := by
  unfold dval at h
  split at h
  · rename_i t m parts hop
    split at h
    · rename_i I hI
      split at h
      · rename_i hc
        obtain ⟨hix, hn, hit⟩ := hc
        simp only [Option.some.injEq] at h
        subst h
        obtain ⟨vs, hrun, hrep, hlen⟩ := run_bs hT hI hix hn hit g
        obtain ⟨b1, b2, b3⟩ := alloc_below w (.cells vs I.e)
        obtain ⟨_, _, _, hsz, _⟩ := sls_ok hT hI
        have hcap : m ≤ maxLen := by
          have := Nat.le_mul_of_pos_right m hsz
          simp only [maxLen]; omega
        have hcell : ∀ (j : Nat) (x : AV), (bsItems s.eval parts.toList).flatten[j]? = some x → ∃ u, vs.toList[j]? = some u := fun j x hx => by
          have := (List.getElem?_eq_some_iff.1 hx).1
          have := hrep.len
          exact ⟨_, List.getElem?_eq_getElem (by omega)⟩
        refine wp_val (v := .slice (some ⟨w.heap.size, 0, none⟩) m m) (w' := w.alloc (.cells vs I.e)) (by unfold execOp; simp only [hop]; rw [Sem.run_bind, hrun]; rfl) (hK _ _ ⟨gb, (g.world b1).put hd ?_⟩)
        have := Rep.sl (w := w.alloc (.cells vs I.e)) (W := Wr F gb s.heap) (gb := gb) (bsItems s.eval parts.toList) I.size (some ⟨w.heap.size, 0, none⟩) m w.heap.size 0 (fun j => (vs.toList[j]?).getD undef) (fun it h => (hit it h).1) (by rw [hlen]; exact Nat.le_refl _) hcap (fun _ => rfl) (fun j x hx => ?_) (fun j x hx hw => ?_) (fun j x hx => ?_) (fun j x hx => ?_)
        · rwa [hlen] at this
        · obtain ⟨u, hu⟩ := hcell j x hx
          rw [Nat.zero_add, hu]
          exact cell_of b3 hu
        · have := wr_lt g.ok hw
          omega
        · obtain ⟨u, hu⟩ := hcell j x hx
          rw [hu]
          exact hrep.one u (List.mem_of_getElem? hu)
        · obtain ⟨u, hu⟩ := hcell j x hx
          rw [hu]
          exact (hrep.rep j x u hx hu).keep (fun b o u hn hc => ⟨(b1.cell (p := ⟨_, _, none⟩) (cell_lt hc)).trans hc, hn⟩) (Ext.refl _)
      · cases h
    · cases h
  · obtain ⟨u, hrun, hrep⟩ := fval_sound hT h g
    exact wp_val hrun (hK _ _ ⟨gb, g.put hd hrep⟩)
end
end Go.Proofs.Ytheanmfdfoefoaa.Hv
