/- Abstract values: a schedule serves for all orders of a region. Plain: over any program. -/
import Derived.Test.YtheanmfdfoefoaaHvPend
set_option linter.unusedVariables false
set_option linter.unusedSimpArgs false
namespace Go.Proofs.Ytheanmfdfoefoaa.Hv
open Go Go.RowKit

def predsOf (o : Oper) : List Nat := o.after.toList.filterMap fun e => bif Region.binds .any e then some e.on else none
def chainOk (all : List Oper) (ps : List Nat) : List Nat → List Nat → Bool
  | [], _ => true
  | z :: r, acc => (ps.elem z || acc.any fun z' => match all[z']? with | some o' => (predsOf o').elem z | none => false) && chainOk all ps r (z :: acc)
/-- An allocation that may be done before its turn. -/
def isE (T : Tbl) (all : List Oper) (o : Oper) : Bool := o.guard.isNone && (isNew o && (predsOf o).all fun j => match all[j]? with | some oj => isR T oj | none => false)
/-- One that is sure to go well. -/
def stE (T : Tbl) (o : Oper) : Bool := match o.op with
  | .alloc e => match o.dst, lk? T.zeros e with
    | some _, some z => (zeroA z).all AV.isOne
    | _, _ => false
  | _ => false
def okStep (T : Tbl) (all : List Oper) (pre ann : List Nat) (i : Nat) (pins done post : List Nat) : Bool :=
  match all[i]? with
  | none => false
  | some o => (!pre.elem i && (predsOf o).all (fun j => pre.elem j && Nat.blt j i)) &&
    (bif isR T o then (match o.dst with | some d => !(namesOf all o).elem d | none => false) && (pins.all fun k => match all[k]? with | some ok => (predsOf ok).all fun j => (i :: pre).elem j | none => false) else
      post.all (fun k => match all[k]? with | some ok => ((predsOf ok).any fun j => !pre.elem j && (Nat.beq j i || match all[j]? with | some oj => !isE T all oj | none => false)) || (isE T all ok && (stE T ok || ann.elem k)) | none => false) && (chainOk all (predsOf o) done [] &&
      pre.all fun k => pins.elem k || done.elem k || match all[k]? with | some ok => !(isR T ok && heapR ok) | none => true))
def annN (T : Tbl) (all : List Oper) (i : Nat) (pins ann : List Nat) : List Nat := match all[i]? with
  | some o => bif isR T o then pins ++ ann else ann
  | none => ann
def okSch (T : Tbl) (all : List Oper) : List Nat → List Nat → List (Nat × List Nat × List Nat) → Bool
  | _, _, [] => true
  | pre, ann, (i, pins, done) :: r => okStep T all pre ann i pins done (r.map (·.1)) && okSch T all (i :: pre) (annN T all i pins ann) r
def dstIs (o : Oper) (t : Nat) : Bool := match o.dst with | some d => Nat.beq d t | none => false
def okReg (T : Tbl) (all : List Oper) (sch : List (Nat × List Nat × List Nat)) : Bool :=
  okSch T all [] [] sch && ((List.range all.length).all (fun i => (sch.map (·.1)).elem i) && all.zipIdx.all fun p => all.zipIdx.all fun q => Nat.beq p.2 q.2 || match p.1.dst with
    | none => true
    | some d => !dstIs q.1 d && (!(namesOf all q.1).elem d || (predsOf q.1).elem p.2 || (!isR T p.1 && (predsOf p.1).elem q.2)))
structure RegOk (T : Tbl) (all : List Oper) : Prop where
  one : ∀ (i j : Nat) (o o' : Oper) (d : Nat), all[i]? = some o → all[j]? = some o' → o.dst = some d → o'.dst = some d → i = j
  dep : ∀ (i j : Nat) (o o' : Oper) (d : Nat), all[i]? = some o → all[j]? = some o' → i ≠ j → o.dst = some d → d ∈ namesOf all o' → i ∈ predsOf o' ∨ (isR T o = false ∧ j ∈ predsOf o)
theorem okReg_spec {T : Tbl} {all : List Oper} {sch : List (Nat × List Nat × List Nat)} (h : okReg T all sch = true) : okSch T all [] [] sch = true ∧ (∀ i, i < all.length → i ∈ sch.map (·.1)) ∧ RegOk T all := by
  unfold okReg at h
  rw [Bool.and_eq_true, Bool.and_eq_true] at h
  obtain ⟨h1, h2, h3⟩ := h
  have hz : ∀ {i : Nat} {o : Oper}, all[i]? = some o → (o, i) ∈ all.zipIdx := fun {i o} hi => by rw [List.mem_zipIdx_iff_getElem?]; exact hi
  rw [List.all_eq_true] at h2 h3
  have key : ∀ (i j : Nat) (o o' : Oper) (d : Nat), all[i]? = some o → all[j]? = some o' → i ≠ j → o.dst = some d → dstIs o' d = false ∧ (d ∈ namesOf all o' → i ∈ predsOf o' ∨ (isR T o = false ∧ j ∈ predsOf o)) := by
    intro i j o o' d hi hj hij hd
    have h4 := List.all_eq_true.1 (h3 _ (hz hi)) _ (hz hj)
    simp only [hd, Bool.or_eq_true, Bool.and_eq_true, Bool.not_eq_true'] at h4
    rcases h4 with h4 | ⟨h4, h5⟩
    · exact absurd (Nat.eq_of_beq_eq_true h4) hij
    · refine ⟨h4, fun hn => ?_⟩
      rcases h5 with (h5 | h5) | ⟨h5, h6⟩
      · rw [List.elem_eq_true_of_mem hn] at h5; cases h5
      · exact .inl (List.elem_iff.1 h5)
      · exact .inr ⟨h5, List.elem_iff.1 h6⟩
  refine ⟨h1, fun i hi => List.elem_iff.1 (h2 i (by simpa using hi)), fun i j o o' d hi hj hd hd' => ?_, fun i j o o' d hi hj hij hd hn => (key i j o o' d hi hj hij hd).2 hn⟩
  rcases Nat.decEq i j with hne | he
  · have := (key i j o o' d hi hj hne hd).1
    simp [dstIs, hd'] at this
  · exact he
theorem mem_preds {o : Oper} {j : Nat} : j ∈ predsOf o ↔ ∃ e ∈ o.after, e.on = j ∧ Region.binds .any e = true := by
  unfold predsOf
  rw [List.mem_filterMap]
  constructor
  · rintro ⟨e, he, h⟩
    cases hb : Region.binds .any e with
    | true => rw [hb] at h; simp only [cond_true, Option.some.injEq] at h; exact ⟨e, by simpa using he, h, hb⟩
    | false => rw [hb] at h; cases h
  · rintro ⟨e, he, h, hb⟩
    exact ⟨e, by simpa using he, by rw [hb, h]; rfl⟩
def hide (s : AS) (l : List Nat) : AS := ⟨l.map (fun t => (t, .dead)) ++ s.env, s.heap, s.next⟩
theorem get_hide (s : AS) (l : List Nat) (t : Nat) : (hide s l).get t = if t ∈ l then .dead else s.get t := by
  unfold hide AS.get
  induction l with
  | nil => simp
  | cons x l ih =>
    simp only [List.map_cons, List.cons_append, lkp]
    by_cases hx : x = t
    · subst hx; simp
    · have : Nat.beq x t = false := by rw [← Bool.not_eq_true]; intro h; exact hx (Nat.eq_of_beq_eq_true h)
      rw [this, cond_false, ih]
      have hx' : ¬ t = x := fun e => hx e.symm
      simp [hx']
def hid (all : List Oper) (listed : Array Bool) (pre : List Nat) : List Nat := (pre.filter fun i => !listed.getD i false).filterMap fun i => (all[i]?).bind (·.dst)
theorem mem_hid {all : List Oper} {listed : Array Bool} {pre : List Nat} {t : Nat} : t ∈ hid all listed pre ↔ ∃ i o, i ∈ pre ∧ listed.getD i false = false ∧ all[i]? = some o ∧ o.dst = some t := by
  unfold hid
  rw [List.mem_filterMap]
  constructor
  · rintro ⟨i, hi, h⟩
    rw [List.mem_filter] at hi
    rw [Option.bind_eq_some_iff] at h
    obtain ⟨o, ho, hd⟩ := h
    exact ⟨i, o, hi.1, by simpa using hi.2, ho, hd⟩
  · rintro ⟨i, o, hi, hl, ho, hd⟩
    exact ⟨i, by rw [List.mem_filter]; exact ⟨hi, by rw [hl]; rfl⟩, by rw [ho]; exact hd⟩
def unl (n : Nat) (listed : Array Bool) : Nat := ((List.range n).filter fun i => !listed.getD i false).length
theorem getD_true {listed : Array Bool} {i : Nat} (h : i < listed.size) : listed.getD i true = listed.getD i false := by
  simp [Array.getD_eq_getD_getElem?, h]
theorem getD_set' {listed : Array Bool} {i j : Nat} (h : i < listed.size) : (listed.setIfInBounds i true).getD j false = if j = i then true else listed.getD j false := by
  by_cases hj : j = i
  · subst hj; simp [h]
  · rw [if_neg hj, getD_set_ne false (fun e => hj e.symm)]
theorem filter_lt {α : Type} {p q : α → Bool} {l : List α} {x : α} (hx : x ∈ l) (h1 : p x = true) (h2 : q x = false) (h : ∀ y, q y = true → p y = true) : (l.filter q).length < (l.filter p).length := by
  induction l with
  | nil => cases hx
  | cons y l ih =>
    have hle : (l.filter q).length ≤ (l.filter p).length := by
      clear ih hx
      induction l with
      | nil => simp
      | cons z l ih2 =>
        simp only [List.filter_cons]
        cases hq : q z with
        | true => rw [h z hq]; simp; exact ih2
        | false => cases hp : p z <;> simp <;> omega
    simp only [List.filter_cons]
    rcases List.mem_cons.1 hx with rfl | hx
    · rw [h1, h2]; simp; omega
    · have := ih hx
      cases hq : q y with
      | true => rw [h y hq]; simp; exact this
      | false => cases hp : p y <;> simp <;> omega
section
variable {P : Program} {T : Tbl} {A : Vis} {N : Nat} {F : Nat → Nat → Prop} {w0 w w' : World} {gb0 gb gb' : Gb} {H0 H H' : Hp} {s s' s1 : AS} {a : Act} {n n' : Nat} {o : Oper} {K : Act → World → Prop} {Q : Exit → Act → World → Prop}
theorem callee_agree {c : Call} (h : ∀ x ∈ c.operands, s1.eval x = s.eval x) : callee? s1 c = callee? s c := by
  have hargs : ∀ x ∈ c.args.toList, s1.eval x = s.eval x := fun x hx => h x (by
    unfold Call.operands
    rw [Array.mem_append]
    exact .inr (by simpa using hx))
  unfold callee?
  cases hc : c.callee with
  | value x =>
    have hx := h x (by unfold Call.operands; rw [hc]; simp)
    simp only [hx, List.map_congr_left hargs]
  | _ => rfl
/-- What an operation makes of the heap does not ask for other slots. -/
theorem geff_agree {all : List Oper} {KK : Hp → Nat → AV → Prop} (ha : ∀ t ∈ namesOf all o, s1.get t = s.get t) (hh : s1.heap = s.heap) (hn : s1.next = s.next) (h : geff P T A all o s KK) : geff P T A all o s1 KK := by
  have he := eval_agree ha
  unfold geff at h ⊢
  rw [gsem_agree ha]
  split at h
  · obtain ⟨e, H, n⟩ := s
    obtain ⟨e1, H1, n1⟩ := s1
    simp only at hh hn
    subst hh hn
    have hf := fop_re (T := T) (A := A) (o := o) (H := H1) (n := n1) (e := e) (e1 := e1) he
    unfold eff1 at h ⊢
    rw [hf]
    cases hr : fop T A o ⟨e, H1, n1⟩ with
    | some r =>
      rw [hr] at h
      simp only [Option.map_some] at h ⊢
      have h1 : (AS.re e1 o r).heap = r.heap := by unfold AS.re; cases o.dst <;> rfl
      have h2 : (AS.re e1 o r).next = r.next := by unfold AS.re; cases o.dst <;> rfl
      have h3 : dstD o (AS.re e1 o r) = dstD o r := by
        unfold AS.re
        unfold dstD
        cases hd : o.dst with
        | none => rfl
        | some d => simp only; rw [get_put, if_pos rfl]
      rw [h1, h2, h3]; exact h
    | none =>
      rw [hr] at h
      simp only [Option.map_none] at h ⊢
      cases hop : o.op with
      | call c =>
        rw [hop] at h he
        simp only at h ⊢
        rw [callee_agree he]
        exact h
      | _ => rw [hop] at h; exact h
  · rw [hh, hn]; exact h
  · exact h.elim
theorem fop_env {r : AS} (h : fop T A o s = some r) : ∀ t, r.get t = ((⟨s.env, r.heap, r.next⟩ : AS).put o.dst (dstD o r)).get t := by
  obtain ⟨e, H, n⟩ := s
  have := fop_re (T := T) (A := A) (o := o) (H := H) (n := n) (e := e) (e1 := e) (fun _ _ => rfl)
  rw [h] at this
  simp only [Option.map_some, Option.some.injEq] at this
  intro t
  have h2 : r.get t = (AS.re e o r).get t := by rw [← this]
  exact h2
theorem geff_sound {all : Array Oper} {KK : Hp → Nat → AV → Prop} {i : Nat} {next : Act → World → Prop} (hT : T.Ok P) (ho : all[i]? = some o) (hd : ∀ k, o.dst = some k → k < N) (h : geff P T A all.toList o s KK) (hr : R P N F w0 gb0 H0 s a w)
    (hK : ∀ H' n' v, KK H' n' v → ∀ a' w', R P N F w0 gb0 H0 ((⟨s.env, H', n'⟩ : AS).put o.dst v) a' w' → next a' w') : wpOp P all Q i next a w := by
  obtain ⟨gb, g⟩ := hr
  unfold geff at h
  unfold wpOp
  simp only [ho]
  split at h
  · rename_i hg
    rw [gsem_ok g hg, if_pos rfl]
    refine .inl ?_
    unfold eff1 at h
    cases hf : fop T A o s with
    | some r =>
      rw [hf] at h
      refine fop_sound hT hf g hd fun a' w' hr' => hK _ _ _ h a' w' (hr'.ext ?_ ?_ fun t => .inl (fop_env hf t).symm)
      · rw [put_heap]
      · rw [put_next]
    | none =>
      rw [hf] at h
      simp only at h
      split at h
      · rename_i c hop
        split at h
        · rename_i f as hc
          rcases h with ⟨res, hA, h⟩ | ⟨Post, hA, h⟩
          · exact s_call hop hc hA g hd fun a' w' hr' => hK _ _ _ h a' w' hr'
          · exact s_hcall hop hc hA g hd fun res H' n' hp a' w' hr' => hK _ _ _ (h res H' n' hp) a' w' hr'
        · exact h.elim
      · exact h.elim
  · rename_i hg
    rw [gsem_ok g hg, if_neg (by simp)]
    exact hK _ _ _ h _ _ ⟨gb, g.put hd (x := .skip) (Rep.lit undef)⟩
  · exact h.elim
structure Pd where
  i : Nat
  d : Nat
  g : Nat
  size : Nat
  val : Value
  ob : Obj
  oo : AO
  v : Nat → AV
def Fp (F : Nat → Nat → Prop) (pend : List Pd) : Nat → Nat → Prop := fun b o => F b o ∨ ∃ p ∈ pend, p.g = b
theorem Fp_nil {F : Nat → Nat → Prop} : Fp F [] = F := by
  funext b o; simp [Fp]
def over (s : AS) (pend : List Pd) : AS := ⟨pend.map (fun p => (p.d, .lit p.val)) ++ s.env, s.heap, s.next⟩
theorem over_ne {s : AS} {pend : List Pd} {t : Nat} (h : ∀ p ∈ pend, p.d ≠ t) : (over s pend).get t = s.get t := by
  unfold over AS.get
  induction pend with
  | nil => rfl
  | cons p pend ih =>
    simp only [List.map_cons, List.cons_append, lkp]
    have hne : Nat.beq p.d t = false := by rw [← Bool.not_eq_true]; intro h'; exact h p List.mem_cons_self (Nat.eq_of_beq_eq_true h')
    rw [hne, cond_false]
    exact ih fun q hq => h q (List.mem_cons_of_mem _ hq)
theorem over_at {s : AS} {pend : List Pd} {p : Pd} (hp : p ∈ pend) (h : ∀ q ∈ pend, q.d = p.d → q = p) : (over s pend).get p.d = .lit p.val := by
  unfold over AS.get
  induction pend with
  | nil => cases hp
  | cons q pend ih =>
    simp only [List.map_cons, List.cons_append, lkp]
    cases hq : Nat.beq q.d p.d with
    | true => rw [cond_true, h q List.mem_cons_self (Nat.eq_of_beq_eq_true hq)]
    | false =>
      rw [cond_false]
      refine ih ?_ fun q' hq' => h q' (List.mem_cons_of_mem _ hq')
      rcases List.mem_cons.1 hp with rfl | hp
      · simp at hq
      · exact hp
theorem over_same {s s1 : AS} {pend : List Pd} {t : Nat} (h : ∃ p ∈ pend, p.d = t) : (over s pend).get t = (over s1 pend).get t := by
  unfold over AS.get
  induction pend with
  | nil => obtain ⟨p, hp, _⟩ := h; cases hp
  | cons q pend ih =>
    simp only [List.map_cons, List.cons_append, lkp]
    cases hq : Nat.beq q.d t with
    | true => rfl
    | false =>
      simp only [cond_false]
      obtain ⟨p, hp, hpt⟩ := h
      refine ih ⟨p, ?_, hpt⟩
      rcases List.mem_cons.1 hp with rfl | hp
      · rw [hpt] at hq; simp at hq
      · exact hp
theorem over_ext {s s1 : AS} {pend : List Pd} (h : ∀ t, (∀ p ∈ pend, p.d ≠ t) → s1.get t = s.get t ∨ s1.get t = .dead) (t : Nat) : (over s1 pend).get t = (over s pend).get t ∨ (over s1 pend).get t = .dead := by
  by_cases ht : ∃ p ∈ pend, p.d = t
  · exact .inl (over_same ht)
  · have ht' : ∀ p ∈ pend, p.d ≠ t := fun p hp e => ht ⟨p, hp, e⟩
    rw [over_ne ht', over_ne ht']
    exact h t ht'
theorem over_put {s : AS} {pend : List Pd} {d : Option Nat} {v : AV} (hd : ∀ k, d = some k → ∀ p ∈ pend, p.d ≠ k) (t : Nat) : (over (s.put d v) pend).get t = ((over s pend).put d v).get t := by
  rw [get_put]
  by_cases htd : d = some t
  · rw [if_pos htd, over_ne (hd t htd), get_put, if_pos htd]
  · rw [if_neg htd]
    by_cases ht : ∃ p ∈ pend, p.d = t
    · exact over_same ht
    · have ht' : ∀ p ∈ pend, p.d ≠ t := fun p hp e => ht ⟨p, hp, e⟩
      rw [over_ne ht', over_ne ht', get_put, if_neg htd]
theorem dval_keep {v : AV} (hT : T.Ok P) (h : dval T s o = some v) (g : Good P N F w0 gb0 H0 s a w gb) (hd : ∀ k, o.dst = some k → k < N) (hK : ∀ a' w', R P N F w0 gb0 H0 (s.put o.dst v) a' w' → (∀ b o, F b o → w'.heap[b]? = w.heap[b]?) → K a' w') : o.wp P a w K Q :=
  dval_sound hT h g.base hd fun a' w' ⟨gb', g'⟩ => hK a' w' ⟨gb', g.rebase g'⟩ fun _ _ hf => g.stay g' hf
theorem geff_keep {all : Array Oper} {KK : Hp → Nat → AV → Prop} {i : Nat} {next : Act → World → Prop} (hT : T.Ok P) (ho : all[i]? = some o) (hd : ∀ k, o.dst = some k → k < N) (h : geff P T A all.toList o s KK) (g : Good P N F w0 gb0 H0 s a w gb)
    (hK : ∀ H' n' v, KK H' n' v → ∀ a' w', R P N F w0 gb0 H0 ((⟨s.env, H', n'⟩ : AS).put o.dst v) a' w' → (∀ b o, F b o → w'.heap[b]? = w.heap[b]?) → next a' w') : wpOp P all Q i next a w :=
  geff_sound hT ho hd h ⟨gb, g.base⟩ fun H' n' v hk a' w' ⟨gb', g'⟩ => hK H' n' v hk a' w' ⟨gb', g.rebase g'⟩ fun _ _ hf => g.stay g' hf
structure PdOk (P : Program) (T : Tbl) (A : Vis) (F : Nat → Nat → Prop) (w0 : World) (ops : Array Oper) (pre : List Nat) (sfx : List (Nat × List Nat × List Nat)) (s : AS) (listed : Array Bool) (w : World) (p : Pd) : Prop where
  mem : p.i ∈ sfx.map (·.1)
  lst : listed.getD p.i false = true
  op : ∃ o, ops[p.i]? = some o ∧ isE T ops.toList o = true ∧ newOf T A o s.eval = some (p.d, p.oo, p.v) ∧ ∀ j ∈ predsOf o, j ∈ pre
  blk : w.heap[p.g]? = some p.ob
  rep : ∀ (w' : World) (W : Nat → Nat → Prop) (gb' : Gb) (id : Nat), w'.heap[p.g]? = some p.ob → gb' id = some (p.g, p.size) → ObjRep P w' W gb' p.g p.size p.oo ∧ Rep w' W gb' (p.v id) p.val
  new0 : w0.heap.size ≤ p.g
  notF : ∀ o, ¬ F p.g o
structure Inv (P : Program) (T : Tbl) (A : Vis) (N : Nat) (F : Nat → Nat → Prop) (w0 : World) (gb0 : Gb) (H0 : Hp) (ops : Array Oper) (Ka : AS → Prop) (pre ann : List Nat) (pend : List Pd) (sfx : List (Nat × List Nat × List Nat)) (s : AS) (listed : Array Bool) (a : Act) (w : World) : Prop where
  size : listed.size = ops.size
  all : ∀ i, i < ops.size → i ∈ pre ∨ i ∈ sfx.map (·.1)
  closed : ∀ i o, ops[i]? = some o → listed.getD i false = true → ∀ j ∈ predsOf o, listed.getD j false = true
  sfxU : ∀ x ∈ sfx, listed.getD x.1 false = false ∨ ∃ p ∈ pend, p.i = x.1
  preP : ∀ i ∈ pre, ∀ o, ops[i]? = some o → ∀ j ∈ predsOf o, j ∈ pre
  good : R P N (Fp F pend) w0 gb0 H0 (over (hide s (hid ops.toList listed pre)) pend) a w
  fwd : ∀ i ∈ pre, ∀ o, ops[i]? = some o → ∀ j ∈ predsOf o, j < i
  pin : ∀ i ∈ pre, listed.getD i false = false → ∃ o d, ops[i]? = some o ∧ isR T o = true ∧ o.dst = some d ∧ d ∉ namesOf ops.toList o ∧ gdval T ops.toList s o = some (s.get d)
  ok : okSch T ops.toList pre ann sfx = true
  walk : rkD P T A ops.toList sfx s Ka
  pds : ∀ p ∈ pend, PdOk P T A F w0 ops pre sfx s listed w p
  pendI : ∀ p ∈ pend, ∀ q ∈ pend, p.i = q.i ∨ p.g = q.g → p = q
  anns : ∀ k ∈ ann, k ∈ pre ∨ ∃ o, ops[k]? = some o ∧ (newOf T A o s.eval).isSome = true
  annP : ∀ k ∈ ann, ∀ o, ops[k]? = some o → ∀ j ∈ predsOf o, j ∈ pre
theorem isE_spec {all : List Oper} (h : isE T all o = true) : o.guard = none ∧ isNew o = true ∧ isR T o = false ∧ ∀ j ∈ predsOf o, ∃ oj, all[j]? = some oj ∧ isR T oj = true := by
  unfold isE at h
  simp only [Bool.and_eq_true] at h
  obtain ⟨h1, h2, h3⟩ := h
  refine ⟨by simpa using h1, h2, ?_, fun j hj => ?_⟩
  · unfold isNew at h2
    unfold isR
    split at h2
    · rename_i hop; rw [hop]
    · rename_i hop; rw [hop]
    · cases h2
  · have := List.all_eq_true.1 h3 j hj
    cases ho : all[j]? with
    | none => rw [ho] at this; cases this
    | some oj => rw [ho] at this; exact ⟨oj, rfl, this⟩
theorem stE_some (h : stE T o = true) (ρ : Operand → AV) : (newOf T A o ρ).isSome = true := by
  unfold stE at h
  unfold newOf
  split at h
  · rename_i hop
    split at h
    · rename_i hd hz
      simp only [hop, hd, hz]
      rw [if_pos h]
      rfl
    · cases h
  · cases h
theorem mem_annOk {all : List Oper} {ks : List Nat} (h : annOk T A all s ks) : ∀ k ∈ ks, ∃ o, all[k]? = some o ∧ (newOf T A o s.eval).isSome = true := by
  induction ks with
  | nil => exact fun k hk => by cases hk
  | cons k ks ih =>
    unfold annOk at h
    obtain ⟨h1, h2⟩ := h
    have h3 := ih h2
    intro k' hk'
    rcases List.mem_cons.1 hk' with rfl | hk'
    · cases ho : all[k']? with
      | none => rw [ho] at h1; exact h1.elim
      | some o => rw [ho] at h1; exact ⟨o, rfl, h1⟩
    · exact h3 k' hk'
theorem split_annOk {all : List Oper} {ks : List Nat} {X : Prop} (h : match ks with
    | [] => X
    | k :: ks => annOk T A all s (k :: ks) ∧ X) : X ∧ ∀ k ∈ ks, ∃ o, all[k]? = some o ∧ (newOf T A o s.eval).isSome = true := by
  cases ks with
  | nil => exact ⟨h, fun k hk => by cases hk⟩
  | cons k ks => exact ⟨h.2, mem_annOk h.1⟩
theorem chain_mem {all : List Oper} {ps : List Nat} (Pd : Nat → Prop) (h0 : ∀ z ∈ ps, Pd z) (h1 : ∀ z' o', Pd z' → all[z']? = some o' → ∀ z ∈ predsOf o', Pd z) : ∀ (l acc : List Nat), (∀ z ∈ acc, Pd z) → chainOk all ps l acc = true → ∀ z ∈ l, Pd z := by
  intro l
  induction l with
  | nil => intro acc _ _ z hz; cases hz
  | cons x l ih =>
    intro acc hacc h z hz
    unfold chainOk at h
    rw [Bool.and_eq_true] at h
    have hx : Pd x := by
      rcases Bool.or_eq_true _ _ ▸ h.1 with h2 | h2
      · exact h0 x (List.elem_iff.1 h2)
      · rw [List.any_eq_true] at h2
        obtain ⟨z', hz', h3⟩ := h2
        cases ho : all[z']? with
        | none => rw [ho] at h3; cases h3
        | some o' => rw [ho] at h3; exact h1 z' o' (hacc z' hz') ho x (List.elem_iff.1 h3)
    rcases List.mem_cons.1 hz with rfl | hz
    · exact hx
    · exact ih (x :: acc) (fun y hy => (List.mem_cons.1 hy).elim (fun e => e ▸ hx) (hacc y)) h.2 z hz
theorem mem_pinsOk {all : List Oper} {pins : List Nat} (h : pinsOk T all s pins) {i : Nat} (hi : i ∈ pins) : ∃ o, all[i]? = some o ∧ gdval T all s o = some (dstD o s) := by
  induction pins with
  | nil => cases hi
  | cons x pins ih =>
    unfold pinsOk at h
    rcases List.mem_cons.1 hi with rfl | hi
    · cases ho : all[i]? with
      | none => rw [ho] at h; exact h.1.elim
      | some o => rw [ho] at h; exact ⟨o, rfl, h.1⟩
    · exact ih h.2 hi
theorem step_spec {all : List Oper} {pre ann : List Nat} {i : Nat} {pins done : List Nat} {r : List (Nat × List Nat × List Nat)} (h : okSch T all pre ann ((i, pins, done) :: r) = true) : ∃ o, all[i]? = some o ∧ i ∉ pre ∧ (∀ j ∈ predsOf o, j ∈ pre ∧ j < i) ∧ okSch T all (i :: pre) (annN T all i pins ann) r = true ∧
    (isR T o = true → (∃ d, o.dst = some d ∧ d ∉ namesOf all o) ∧ ∀ k ∈ pins, ∀ ok, all[k]? = some ok → ∀ j ∈ predsOf ok, j ∈ i :: pre) ∧
    (isR T o = false → (∀ k ∈ r.map (·.1), ∀ ok, all[k]? = some ok → (∃ j ∈ predsOf ok, j ∉ pre ∧ (j = i ∨ ∃ oj, all[j]? = some oj ∧ isE T all oj = false)) ∨ (isE T all ok = true ∧ (stE T ok = true ∨ k ∈ ann))) ∧ chainOk all (predsOf o) done [] = true ∧ ∀ k ∈ pre, k ∈ pins ∨ k ∈ done ∨ ∀ ok, all[k]? = some ok → isR T ok = true → heapR ok = false) := by
  unfold okSch at h
  rw [Bool.and_eq_true] at h
  obtain ⟨h1, h2⟩ := h
  unfold okStep at h1
  cases ho : all[i]? with
  | none => rw [ho] at h1; cases h1
  | some o =>
    rw [ho] at h1
    simp only [Bool.and_eq_true, Bool.not_eq_true'] at h1
    obtain ⟨⟨h3, h4⟩, h5⟩ := h1
    refine ⟨o, rfl, fun hm => (by rw [List.elem_eq_true_of_mem hm] at h3; cases h3), fun j hj => ?_, h2, fun hr => ?_, fun hr => ?_⟩
    · have := List.all_eq_true.1 h4 j hj
      rw [Bool.and_eq_true] at this
      exact ⟨List.elem_iff.1 this.1, Nat.le_of_ble_eq_true this.2⟩
    · rw [hr] at h5
      simp only [cond_true, Bool.and_eq_true] at h5
      obtain ⟨h5, h6⟩ := h5
      refine ⟨?_, fun k hk ok hok j hj => ?_⟩
      · cases hd : o.dst with
        | none => rw [hd] at h5; cases h5
        | some d =>
          simp only [hd] at h5
          refine ⟨d, rfl, fun hm => ?_⟩
          rw [List.elem_eq_true_of_mem hm] at h5; cases h5
      · have := List.all_eq_true.1 h6 k hk
        rw [hok] at this
        exact List.elem_iff.1 (List.all_eq_true.1 this j hj)
    · rw [hr] at h5
      simp only [cond_false, Bool.and_eq_true] at h5
      obtain ⟨h6, h7, h8⟩ := h5
      refine ⟨fun k hk ok hok => ?_, h7, fun k hk => ?_⟩
      · have := List.all_eq_true.1 h6 k hk
        rw [hok] at this
        simp only [List.any_eq_true, Bool.or_eq_true, Bool.and_eq_true] at this
        rcases this with ⟨j, hj, hj2⟩ | ⟨he, h⟩
        · refine .inl ⟨j, hj, fun hm => ?_, ?_⟩
          · rw [List.elem_eq_true_of_mem hm] at hj2; cases hj2.1
          · rcases hj2.2 with hj2 | hj2
            · exact .inl (Nat.eq_of_beq_eq_true hj2)
            · cases hoj : all[j]? with
              | none => rw [hoj] at hj2; cases hj2
              | some oj => rw [hoj] at hj2; exact .inr ⟨oj, rfl, by simpa using hj2⟩
        · exact .inr ⟨he, h.elim .inl fun h => .inr (List.elem_iff.1 h)⟩
      · have := List.all_eq_true.1 h8 k hk
        simp only [Bool.or_eq_true] at this
        rcases this with (h | h) | h
        · exact .inl (List.elem_iff.1 h)
        · exact .inr (.inl (List.elem_iff.1 h))
        · refine .inr (.inr fun ok hok hr => ?_)
          rw [hok] at h
          simp only [hr] at h
          simpa using h
theorem sfx_notin {all : List Oper} : ∀ (sfx : List (Nat × List Nat × List Nat)) (pre ann : List Nat), okSch T all pre ann sfx = true → ∀ x ∈ sfx.map (·.1), x ∉ pre := by
  intro sfx
  induction sfx with
  | nil => intro pre _ _ x hx; cases hx
  | cons y sfx ih2 =>
    intro pre ann hok x hx hm
    obtain ⟨i, pins, done⟩ := y
    obtain ⟨oi, _, hnp, _, hok', _⟩ := step_spec hok
    rw [List.map_cons] at hx
    rcases List.mem_cons.1 hx with rfl | hx
    · exact hnp hm
    · exact ih2 (i :: pre) _ hok' x hx (List.mem_cons_of_mem _ hm)
theorem at_list {ops : Array Oper} {i : Nat} {o : Oper} (h : ops[i]? = some o) : ops.toList[i]? = some o := by rw [Array.getElem?_toList]; exact h
section
variable {ops : Array Oper} {Ka : AS → Prop} {pre ann : List Nat} {pend : List Pd} {sfx r : List (Nat × List Nat × List Nat)} {listed : Array Bool} {i j : Nat} {pins done : List Nat}
theorem Inv.dI (hR : RegOk T ops.toList) (hI : Inv P T A N F w0 gb0 H0 ops Ka pre ann pend sfx s listed a w) {p q : Pd} (hp : p ∈ pend) (hq : q ∈ pend) (h : q.d = p.d) : q = p := by
  obtain ⟨op, h1, _, h3, _⟩ := (hI.pds p hp).op
  obtain ⟨oq, h4, _, h6, _⟩ := (hI.pds q hq).op
  exact hI.pendI q hq p hp (.inl (hR.one q.i p.i oq op q.d (at_list h4) (at_list h1) (newOf_op h6).1 (by rw [h]; exact (newOf_op h3).1)))
theorem Inv.pd (hR : RegOk T ops.toList) (hI : Inv P T A N F w0 gb0 H0 ops Ka pre ann pend sfx s listed a w) {p : Pd} (hp : p ∈ pend) (ho : ops[i]? = some o) {k : Nat} (hk : o.dst = some k) (hne : p.i ≠ i) : p.d ≠ k := by
  intro e
  obtain ⟨op, h1, _, h3, _⟩ := (hI.pds p hp).op
  exact hne (hR.one p.i i op o k (at_list h1) (at_list ho) (by rw [← e]; exact (newOf_op h3).1) hk)
/-- The names that an operation may look at are laid, where what it waits for is done. -/
theorem names_agree (hR : RegOk T ops.toList) (hI : Inv P T A N F w0 gb0 H0 ops Ka pre ann pend sfx s listed a w) (ho : ops[i]? = some o) (hp : ∀ j ∈ predsOf o, listed.getD j false = true) (hpp : ∀ j ∈ predsOf o, j ∈ pre) (hl0 : listed.getD i false = false) :
    ∀ t ∈ namesOf ops.toList o, (over (hide s (hid ops.toList listed pre)) pend).get t = s.get t := by
  intro t ht
  rw [over_ne, get_hide, if_neg]
  · intro hm
    obtain ⟨j, oj, hj, hl, hoj, hd⟩ := mem_hid.1 hm
    obtain ⟨oj', dj, hoj', hRj, hdj, hnj, _⟩ := hI.pin j hj hl
    have e : oj' = oj := by
      rw [Array.getElem?_toList, hoj'] at hoj
      injection hoj
    subst e
    by_cases hij : j = i
    · subst hij
      rw [hoj'] at ho
      injection ho with ho
      subst ho
      rw [hdj] at hd
      injection hd with hd
      subst hd
      exact hnj ht
    · rcases hR.dep j i oj' o t hoj (at_list ho) hij hd ht with h | ⟨h, _⟩
      · rw [hp j h] at hl; cases hl
      · rw [hRj] at h; cases h
  · intro p hpm e
    obtain ⟨op, h1, h2, h3, h4⟩ := (hI.pds p hpm).op
    have hne : p.i ≠ i := fun e => by have := (hI.pds p hpm).lst; rw [e, hl0] at this; cases this
    rcases hR.dep p.i i op o t (at_list h1) (at_list ho) hne (by rw [← e]; exact (newOf_op h3).1) ht with h | ⟨_, h⟩
    · exact sfx_notin sfx pre ann hI.ok _ (hI.pds p hpm).mem (hpp _ h)
    · have := hI.closed p.i op h1 (hI.pds p hpm).lst i h
      rw [hl0] at this; cases this
/-- What is still to be done does not name what is done now. -/
theorem new_stable (hR : RegOk T ops.toList) (ho : ops[i]? = some o) (hnp : i ∉ pre) (hpo : ∀ j ∈ predsOf o, j ∈ pre) {k : Nat} {ok : Oper} (hok : ops[k]? = some ok) (hpk : ∀ j ∈ predsOf ok, j ∈ pre) (hkp : k ∉ pre) (hki : k ≠ i) (hs : ∀ t, o.dst ≠ some t → s1.get t = s.get t) :
    ∀ t ∈ namesOf ops.toList ok, s1.get t = s.get t := by
  intro t ht
  refine hs t fun e => ?_
  rcases hR.dep i k o ok t (at_list ho) (at_list hok) (fun e => hki e.symm) e ht with h | ⟨_, h⟩
  · exact hnp (hpk i h)
  · exact hkp (hpo k h)
/-- The readings that are still to come are as they were, behind a step that changes the heap. -/
theorem pin_after (hR : RegOk T ops.toList) (hI : Inv P T A N F w0 gb0 H0 ops Ka pre ann pend sfx s listed a w) (ho : ops[i]? = some o) (hnp : i ∉ pre) (hpl : ∀ k ∈ predsOf o, listed.getD k false = true) (hdone : ∀ z ∈ done, listed.getD z false = true)
    (hpin : ∀ k ∈ pre, k ∈ pins ∨ k ∈ done ∨ ∀ ok, ops.toList[k]? = some ok → isR T ok = true → heapR ok = false) {H' : Hp} {n' : Nat} {v : AV} (hpo : pinsOk T ops.toList ((⟨s.env, H', n'⟩ : AS).put o.dst v) pins) {k : Nat} (hkp : k ∈ pre) (hl : listed.getD k false = false) :
    ∃ ok d, ops[k]? = some ok ∧ isR T ok = true ∧ ok.dst = some d ∧ d ∉ namesOf ops.toList ok ∧ gdval T ops.toList ((⟨s.env, H', n'⟩ : AS).put o.dst v) ok = some (((⟨s.env, H', n'⟩ : AS).put o.dst v).get d) := by
  obtain ⟨ok, dk, hok2, hRk, hdk, hnk, hgk⟩ := hI.pin k hkp hl
  have hki : i ≠ k := fun e => hnp (e ▸ hkp)
  refine ⟨ok, dk, hok2, hRk, hdk, hnk, ?_⟩
  rcases hpin k hkp with h | h | h
  · obtain ⟨ok', hok3, hg⟩ := mem_pinsOk hpo h
    rw [Array.getElem?_toList, hok2] at hok3
    injection hok3 with hok3
    subst hok3
    rw [hg]
    unfold dstD
    rw [hdk]
  · rw [hdone k h] at hl; cases hl
  · have hcold := h ok (at_list hok2) hRk
    have hdne : ∀ t, o.dst = some t → t ∉ namesOf ops.toList ok := by
      intro t ht hn
      rcases hR.dep i k o ok t (at_list ho) (at_list hok2) hki ht hn with h | ⟨_, h⟩
      · exact hnp (hI.preP k hkp ok hok2 i h)
      · rw [hpl k h] at hl; cases hl
    rw [gdval_agree (s := s) (fun t ht => ?_) (.inr hcold), hgk, get_put, if_neg]
    · rfl
    · intro e
      exact hki (hR.one i k o ok dk (at_list ho) (at_list hok2) e hdk)
    · rw [get_put, if_neg]
      · rfl
      · intro e; exact hdne t e ht
theorem Inv.head (hI : Inv P T A N F w0 gb0 H0 ops Ka pre ann pend ((i, pins, done) :: r) s listed a w) : ∀ j, j < ops.size → j ∈ i :: pre ∨ j ∈ r.map (·.1) := fun j hj => by
  rcases hI.all j hj with h | h
  · exact .inl (List.mem_cons_of_mem _ h)
  · rw [List.map_cons] at h
    rcases List.mem_cons.1 h with h | h
    · exact .inl (by rw [h]; exact List.mem_cons_self)
    · exact .inr h
theorem Inv.headP (hI : Inv P T A N F w0 gb0 H0 ops Ka pre ann pend ((i, pins, done) :: r) s listed a w) (ho : ops[i]? = some o) (hpr : ∀ j ∈ predsOf o, j ∈ pre ∧ j < i) : (∀ j ∈ i :: pre, ∀ oj, ops[j]? = some oj → ∀ k ∈ predsOf oj, k ∈ i :: pre) ∧ ∀ j ∈ i :: pre, ∀ oj, ops[j]? = some oj → ∀ k ∈ predsOf oj, k < j := by
  refine ⟨fun j hj oj hoj k hk => ?_, fun j hj oj hoj k hk => ?_⟩
  · rcases List.mem_cons.1 hj with rfl | hj
    · rw [ho] at hoj; injection hoj with hoj; subst hoj
      exact List.mem_cons_of_mem _ (hpr k hk).1
    · exact List.mem_cons_of_mem _ (hI.preP j hj oj hoj k hk)
  · rcases List.mem_cons.1 hj with rfl | hj
    · rw [ho] at hoj; injection hoj with hoj; subst hoj
      exact (hpr k hk).2
    · exact hI.fwd j hj oj hoj k hk
/-- What is ahead, behind a step. -/
theorem Inv.pd_next (hR : RegOk T ops.toList) (hI : Inv P T A N F w0 gb0 H0 ops Ka pre ann pend ((i, pins, done) :: r) s listed a w) (ho : ops[i]? = some o) (hnp : i ∉ pre) (hpr : ∀ j ∈ predsOf o, j ∈ pre) (hs : ∀ t, o.dst ≠ some t → s1.get t = s.get t) {p : Pd} (hp : p ∈ pend) (hne : p.i ≠ i) {listed' : Array Bool} (hl : listed'.getD p.i false = true) (hb : w'.heap[p.g]? = w.heap[p.g]?) :
    PdOk P T A F w0 ops (i :: pre) r s1 listed' w' p := by
  have h := hI.pds p hp
  obtain ⟨op, h1, h2, h3, h4⟩ := h.op
  refine ⟨?_, hl, ⟨op, h1, h2, newOf_local (new_stable hR ho hnp hpr h1 h4 (sfx_notin _ pre ann hI.ok _ h.mem) hne hs) h3, fun j hj => List.mem_cons_of_mem _ (h4 j hj)⟩, hb.trans h.blk, h.rep, h.new0, h.notF⟩
  have := h.mem
  rw [List.map_cons] at this
  exact (List.mem_cons.1 this).elim (fun e => absurd e hne) id
theorem Inv.ann_next (hR : RegOk T ops.toList) (hI : Inv P T A N F w0 gb0 H0 ops Ka pre ann pend ((i, pins, done) :: r) s listed a w) (ho : ops[i]? = some o) (hnp : i ∉ pre) (hpr : ∀ j ∈ predsOf o, j ∈ pre) (hs : ∀ t, o.dst ≠ some t → s1.get t = s.get t) {k : Nat} (hk : k ∈ ann) :
    (k ∈ i :: pre ∨ ∃ o, ops[k]? = some o ∧ (newOf T A o s1.eval).isSome = true) ∧ ∀ o, ops[k]? = some o → ∀ j ∈ predsOf o, j ∈ i :: pre := by
  refine ⟨?_, fun o ho j hj => List.mem_cons_of_mem _ (hI.annP k hk o ho j hj)⟩
  by_cases hkp : k ∈ i :: pre
  · exact .inl hkp
  · have hkp' : k ∉ pre := fun h => hkp (List.mem_cons_of_mem _ h)
    have hki : k ≠ i := fun e => hkp (by rw [e]; exact List.mem_cons_self)
    rcases hI.anns k hk with h | ⟨ok, hok, h⟩
    · exact absurd h hkp'
    · refine .inr ⟨ok, hok, ?_⟩
      rw [newOf_local (new_stable hR ho hnp hpr hok (hI.annP k hk ok hok) hkp' hki hs) rfl]
      exact h
theorem annN_R (ho : ops[i]? = some o) (hr : isR T o = true) : annN T ops.toList i pins ann = pins ++ ann := by unfold annN; rw [at_list ho]; simp only [hr, cond_true]
theorem annN_E (ho : ops[i]? = some o) (hr : isR T o = false) : annN T ops.toList i pins ann = ann := by unfold annN; rw [at_list ho]; simp only [hr, cond_false]
theorem Inv.move (hR : RegOk T ops.toList) (hI : Inv P T A N F w0 gb0 H0 ops Ka pre ann pend ((i, pins, done) :: r) s listed a w) {o : Oper} (ho : ops[i]? = some o) (hr : isR T o = true) :
    ∃ s', Inv P T A N F w0 gb0 H0 ops Ka (i :: pre) (pins ++ ann) pend r s' listed a w := by
  obtain ⟨o', ho', hnp, hpr, hok, hRs, _⟩ := step_spec hI.ok
  have e : o' = o := by
    rw [Array.getElem?_toList, ho] at ho'
    injection ho' with ho'
    exact ho'.symm
  subst e
  obtain ⟨⟨d, hd, hnd⟩, hann⟩ := hRs hr
  rw [annN_R ho hr] at hok
  have hw := hI.walk
  unfold rkD at hw
  rw [ho'] at hw
  simp only [hr, cond_true] at hw
  cases hv : gdval T ops.toList s o' with
  | none => rw [hv] at hw; exact hw.elim
  | some v =>
    rw [hv] at hw
    obtain ⟨hw, hnew⟩ := split_annOk hw
    have hpne : ∀ p ∈ pend, p.i ≠ i := fun p hp e => by
      obtain ⟨op, h1, h2, _⟩ := (hI.pds p hp).op
      have := (isE_spec h2).2.2.1
      rw [e, ho] at h1
      injection h1 with h1
      rw [← h1, hr] at this; cases this
    have hul : listed.getD i false = false := (hI.sfxU _ (List.mem_cons_self)).elim id fun ⟨p, hp, e⟩ => absurd e (hpne p hp)
    have hst : ∀ t, o'.dst ≠ some t → (s.put o'.dst v).get t = s.get t := fun t ht => by rw [get_put, if_neg ht]
    have hother : ∀ k ∈ pre, ∀ ok, ops[k]? = some ok → ∀ t ∈ namesOf ops.toList ok, (s.put o'.dst v).get t = s.get t := by
      intro k hk ok hok t ht
      rw [get_put, if_neg]
      intro hdt
      have hki : i ≠ k := fun e => hnp (e ▸ hk)
      rcases hR.dep i k o' ok t ho' (at_list hok) hki hdt ht with h | ⟨h, _⟩
      · exact hnp (hI.preP k hk ok hok i h)
      · rw [hr] at h; cases h
    have hhp := hI.headP ho hpr
    refine ⟨s.put o'.dst v, hI.size, hI.head, hI.closed, fun x hx => hI.sfxU x (List.mem_cons_of_mem _ hx), hhp.1, ?_, hhp.2, fun j hj hl => ?_, hok, hw, fun p hp => hI.pd_next hR ho hnp (fun j hj => (hpr j hj).1) hst hp (hpne p hp) (hI.pds p hp).lst rfl, hI.pendI, fun k hk => ?_, fun k hk => ?_⟩
    · refine hI.good.ext ?_ ?_ (over_ext fun t _ => ?_)
      · exact put_heap
      · exact put_next
      · rw [get_hide, get_hide]
        by_cases hm : t ∈ hid ops.toList listed (i :: pre)
        · rw [if_pos hm]; exact .inr rfl
        · have hm2 : t ∉ hid ops.toList listed pre := fun h => hm (by
            obtain ⟨k, ok, hk, hl, hok', hdk⟩ := mem_hid.1 h
            exact mem_hid.2 ⟨k, ok, List.mem_cons_of_mem _ hk, hl, hok', hdk⟩)
          rw [if_neg hm, if_neg hm2, get_put, if_neg]
          · exact .inl rfl
          · intro hdt
            exact hm (mem_hid.2 ⟨i, o', List.mem_cons_self, hul, ho', hdt⟩)
    · rcases List.mem_cons.1 hj with rfl | hj
      · refine ⟨o', d, ho, hr, hd, hnd, ?_⟩
        rw [gdval_agree (s := s) (fun t ht => by
          rw [get_put, if_neg]
          intro e; rw [hd] at e; injection e with e; subst e; exact hnd ht) (.inl put_heap), hv, get_put, if_pos hd]
      · obtain ⟨ok, dk, hok', hRk, hdk, hnk, hgk⟩ := hI.pin j hj hl
        refine ⟨ok, dk, hok', hRk, hdk, hnk, ?_⟩
        rw [gdval_agree (s := s) (hother j hj ok hok') (.inl put_heap), hgk, get_put, if_neg]
        intro e
        have := hR.one i j o' ok dk ho' (at_list hok') e hdk
        exact hnp (this ▸ hj)
    · rcases List.mem_append.1 hk with hk | hk
      · obtain ⟨ok, hok', h⟩ := hnew k hk
        exact .inr ⟨ok, by rw [← Array.getElem?_toList]; exact hok', h⟩
      · exact (hI.ann_next hR ho hnp (fun j hj => (hpr j hj).1) hst hk).1
    · rcases List.mem_append.1 hk with hk | hk
      · exact fun ok hok' => hann k hk ok (at_list hok')
      · exact (hI.ann_next hR ho hnp (fun j hj => (hpr j hj).1) hst hk).2
theorem unl_lt {n : Nat} (hi : i < n) (hs : i < listed.size) (hl : listed.getD i false = false) : unl n (listed.setIfInBounds i true) < unl n listed := by
  unfold unl
  refine filter_lt (x := i) (by simpa using hi) (by rw [hl]; rfl) (by rw [getD_set' hs, if_pos rfl]; rfl) fun y hy => ?_
  rw [getD_set' hs] at hy
  split at hy
  · cases hy
  · exact hy
theorem closed_next {o : Oper} (hI : Inv P T A N F w0 gb0 H0 ops Ka pre ann pend sfx s listed a w) (hs : j < listed.size) (ho : ops[j]? = some o) (hpl : ∀ k ∈ predsOf o, listed.getD k false = true) :
    ∀ k ok, ops[k]? = some ok → (listed.setIfInBounds j true).getD k false = true → ∀ e ∈ predsOf ok, (listed.setIfInBounds j true).getD e false = true := by
  intro k ok hok hlk e he
  rw [getD_set' hs] at hlk ⊢
  split
  · rfl
  · split at hlk
    · rename_i hkj
      subst hkj
      rw [ho] at hok
      injection hok with hok
      subst hok
      exact hpl e he
    · exact hI.closed k ok hok hlk e he
theorem hid_next {t : Nat} (hs : j < listed.size) (ho : ops[j]? = some o) {pre' : List Nat} (hsub : ∀ k ∈ pre, k ∈ pre') (htd : o.dst ≠ some t ∨ j ∉ pre) (hm : t ∈ hid ops.toList listed pre) : t ∈ hid ops.toList (listed.setIfInBounds j true) pre' := by
  obtain ⟨k, ok, hk, hl, hok, hdk⟩ := mem_hid.1 hm
  refine mem_hid.2 ⟨k, ok, hsub k hk, ?_, hok, hdk⟩
  rw [getD_set' hs, if_neg]
  · exact hl
  · rintro rfl
    rw [Array.getElem?_toList, ho] at hok
    injection hok with hok
    subst hok
    exact htd.elim (fun h => h hdk) fun h => h hk
theorem dst_lt (hdN : ∀ o ∈ ops.toList, okD N o = true) (ho : ops[j]? = some o) : ∀ k, o.dst = some k → k < N := fun k hk => by
  have := hdN o (List.mem_of_getElem? (at_list ho))
  unfold okD at this
  rw [hk] at this
  exact Nat.le_of_ble_eq_true this
theorem ready_spec {o : Oper} (hj : j ∈ Region.ready .any ops listed) (hsz : listed.size = ops.size) (ho : ops[j]? = some o) : listed.getD j false = false ∧ j < listed.size ∧ ∀ k ∈ predsOf o, listed.getD k false = true := by
  obtain ⟨h1, o2, ho2, hall⟩ := mem_ready.1 hj
  have hlt := (Array.getElem?_eq_some_iff.1 ho).1
  have hls : j < listed.size := by rw [hsz]; exact hlt
  rw [getD_true hls] at h1
  rw [ho] at ho2
  injection ho2 with ho2
  subst ho2
  exact ⟨h1, hls, fun k hk => by
    obtain ⟨e, he, he1, hb⟩ := mem_preds.1 hk
    rw [← he1]; exact hall e he hb⟩
/-- A reading that is done late. -/
theorem Inv.late {fuel : Nat} (hT : T.Ok P) (hR : RegOk T ops.toList) (hdN : ∀ o ∈ ops.toList, okD N o = true) (ih : ∀ (sfx : List (Nat × List Nat × List Nat)) (ann : List Nat) (pend : List Pd) (pre : List Nat) (s : AS) (listed : Array Bool) (a : Act) (w : World), unl ops.size listed ≤ fuel → Inv P T A N F w0 gb0 H0 ops Ka pre ann pend sfx s listed a w → wpAny P .any ops Q fuel listed a w)
    (hu : unl ops.size listed ≤ fuel + 1) (hI : Inv P T A N F w0 gb0 H0 ops Ka pre ann pend sfx s listed a w) (hj : j ∈ Region.ready .any ops listed) (hjp : j ∈ pre) : wpOp P ops Q j (wpAny P .any ops Q fuel (listed.setIfInBounds j true)) a w := by
  obtain ⟨_, o, ho, _⟩ := mem_ready.1 hj
  obtain ⟨h1, hls, hpl⟩ := ready_spec hj hI.size ho
  have hlt := (Array.getElem?_eq_some_iff.1 ho).1
  obtain ⟨o', d, ho', hRo, hd, hnd, hgv⟩ := hI.pin j hjp h1
  rw [ho] at ho'
  injection ho' with ho'
  subst ho'
  have hag := names_agree hR hI ho hpl (hI.preP j hjp o ho) h1
  have hgv' : gdval T ops.toList (over (hide s (hid ops.toList listed pre)) pend) o = some (s.get d) := by rw [gdval_agree (s := s) hag (.inl rfl)]; exact hgv
  have hdN' := dst_lt hdN ho
  have hpne : ∀ p ∈ pend, p.i ≠ j := fun p hp e => sfx_notin sfx pre ann hI.ok _ (hI.pds p hp).mem (e ▸ hjp)
  have hpd : ∀ k, o.dst = some k → ∀ p ∈ pend, p.d ≠ k := fun k hk p hp => hI.pd hR hp ho hk (hpne p hp)
  have hnext : ∀ a' w', R P N (Fp F pend) w0 gb0 H0 ((over (hide s (hid ops.toList listed pre)) pend).put o.dst (s.get d)) a' w' → (∀ b o, Fp F pend b o → w'.heap[b]? = w.heap[b]?) → wpAny P .any ops Q fuel (listed.setIfInBounds j true) a' w' := by
    intro a' w' hr' hkeep
    refine ih sfx ann pend pre s _ a' w' (by have := unl_lt hlt hls h1; omega) ⟨by simp [hI.size], hI.all, closed_next hI hls ho hpl, fun x hx => ?_, hI.preP, ?_, hI.fwd, fun k hk hlk => ?_, hI.ok, hI.walk, fun p hp => ?_, hI.pendI, hI.anns, hI.annP⟩
    · rw [getD_set' hls]
      split
      · rename_i he
        exact absurd (he ▸ hjp) (sfx_notin sfx pre ann hI.ok x.1 (List.mem_map_of_mem hx))
      · exact hI.sfxU x hx
    · refine (hr'.ext (s' := over ((hide s (hid ops.toList listed pre)).put o.dst (s.get d)) pend) ?_ ?_ fun t => .inl (over_put hpd t)).ext ?_ ?_ (over_ext fun t _ => ?_)
      · rw [put_heap]; show ((hide s (hid ops.toList listed pre)).put o.dst (s.get d)).heap = _; rw [put_heap]; rfl
      · rw [put_next]; show ((hide s (hid ops.toList listed pre)).put o.dst (s.get d)).next = _; rw [put_next]; rfl
      · show _ = ((hide s (hid ops.toList listed pre)).put o.dst (s.get d)).heap; rw [put_heap]; rfl
      · show _ = ((hide s (hid ops.toList listed pre)).put o.dst (s.get d)).next; rw [put_next]; rfl
      · rw [get_hide, get_put, get_hide]
        by_cases hm : t ∈ hid ops.toList (listed.setIfInBounds j true) pre
        · rw [if_pos hm]; exact .inr rfl
        · rw [if_neg hm]
          by_cases htd : o.dst = some t
          · rw [if_pos htd]
            rw [hd] at htd
            injection htd with htd
            subst htd
            exact .inl rfl
          · rw [if_neg htd, if_neg]
            · exact .inl rfl
            · exact fun hm2 => hm (hid_next hls ho (fun _ h => h) (.inl htd) hm2)
    · refine hI.pin k hk ?_
      rw [getD_set' hls] at hlk
      split at hlk
      · cases hlk
      · exact hlk
    · have h := hI.pds p hp
      refine ⟨h.mem, ?_, h.op, (hkeep p.g 0 (.inr ⟨p, hp, rfl⟩)).trans h.blk, h.rep, h.new0, h.notF⟩
      rw [getD_set' hls, if_neg (hpne p hp)]
      exact h.lst
  obtain ⟨gb, g⟩ := hI.good
  unfold wpOp
  simp only [ho]
  unfold gdval at hgv'
  cases hg : gsem ops.toList (over (hide s (hid ops.toList listed pre)) pend) o with
  | none => rw [hg] at hgv'; cases hgv'
  | some b =>
    rw [hg] at hgv'
    rw [gsem_ok g hg]
    cases b with
    | true =>
      rw [if_pos rfl]
      exact .inl (dval_keep hT hgv' g hdN' hnext)
    | false =>
      rw [if_neg (by simp)]
      simp only [Option.some.injEq] at hgv'
      rw [← hgv'] at hnext
      exact hnext _ _ ⟨gb, g.put hdN' (x := .skip) (Rep.lit undef)⟩ fun _ _ _ => rfl
/-- An allocation that is done before its turn. -/
theorem Inv.early {fuel : Nat} (hT : T.Ok P) (hR : RegOk T ops.toList) (hdN : ∀ o ∈ ops.toList, okD N o = true) (ih : ∀ (sfx : List (Nat × List Nat × List Nat)) (ann : List Nat) (pend : List Pd) (pre : List Nat) (s : AS) (listed : Array Bool) (a : Act) (w : World), unl ops.size listed ≤ fuel → Inv P T A N F w0 gb0 H0 ops Ka pre ann pend sfx s listed a w → wpAny P .any ops Q fuel listed a w)
    (hu : unl ops.size listed ≤ fuel + 1) (hI : Inv P T A N F w0 gb0 H0 ops Ka pre ann pend sfx s listed a w) (hj : j ∈ Region.ready .any ops listed) (hjs : j ∈ sfx.map (·.1)) (ho : ops[j]? = some o) (hE : isE T ops.toList o = true) (hnew : (newOf T A o s.eval).isSome = true) : wpOp P ops Q j (wpAny P .any ops Q fuel (listed.setIfInBounds j true)) a w := by
  obtain ⟨h1, hls, hpl⟩ := ready_spec hj hI.size ho
  have hlt := (Array.getElem?_eq_some_iff.1 ho).1
  obtain ⟨hg0, hin, hnR, hpR⟩ := isE_spec hE
  have hjp := sfx_notin sfx pre ann hI.ok j hjs
  have hpp : ∀ k ∈ predsOf o, k ∈ pre := fun k hk => by
    obtain ⟨ok, hok, hRk⟩ := hpR k hk
    have hks := (List.getElem?_eq_some_iff.1 hok).1
    rcases hI.all k (by simpa using hks) with h | h
    · exact h
    · obtain ⟨x, hx, rfl⟩ := List.mem_map.1 h
      rcases hI.sfxU x hx with h | ⟨p, hp, he⟩
      · rw [hpl _ hk] at h; cases h
      · obtain ⟨op, hop, hEp, _⟩ := (hI.pds p hp).op
        have := (isE_spec hEp).2.2.1
        rw [← he, Array.getElem?_toList, hop] at hok
        injection hok with hok
        rw [hok, hRk] at this; cases this
  have hag := names_agree hR hI ho hpl hpp h1
  obtain ⟨⟨d, oo, v⟩, hnw⟩ := Option.isSome_iff_exists.1 hnew
  have hd := (newOf_op hnw).1
  obtain ⟨gb, g⟩ := hI.good
  have hpne : ∀ p ∈ pend, p.i ≠ j := fun p hp e => by have := (hI.pds p hp).lst; rw [e, h1] at this; cases this
  obtain ⟨val, ob, size, hrun, hrep⟩ := newOf_run hT (newOf_local hag hnw) g
  obtain ⟨b1, b2, b3⟩ := alloc_below w ob
  have hpg : ∀ p ∈ pend, p.g < w.heap.size := fun p hp => g.ok.FB p.g 0 (.inr ⟨p, hp, rfl⟩)
  have hgs : gsem ops.toList (over (hide s (hid ops.toList listed pre)) pend) o = some true := by unfold gsem; rw [hg0]
  unfold wpOp
  simp only [ho]
  rw [gsem_ok g hgs, if_pos rfl]
  refine .inl (wp_val hrun ?_)
  have hF : ∀ b o, Fp F (⟨j, d, w.heap.size, size, val, ob, oo, v⟩ :: pend) b o ↔ Fp F pend b o ∨ b = w.heap.size := fun b o => by
    unfold Fp
    constructor
    · rintro (h | ⟨p, hp, he⟩)
      · exact .inl (.inl h)
      · rcases List.mem_cons.1 hp with rfl | hp
        · exact .inr he.symm
        · exact .inl (.inr ⟨p, hp, he⟩)
    · rintro ((h | ⟨p, hp, he⟩) | h)
      · exact .inl h
      · exact .inr ⟨p, List.mem_cons_of_mem _ hp, he⟩
      · exact .inr ⟨_, List.mem_cons_self, h.symm⟩
  refine ih sfx ann (⟨j, d, w.heap.size, size, val, ob, oo, v⟩ :: pend) pre s _ _ _ (by have := unl_lt hlt hls h1; omega) ⟨by simp [hI.size], hI.all, closed_next hI hls ho hpl, fun x hx => ?_, hI.preP, ?_, hI.fwd, fun k hk hlk => ?_, hI.ok, hI.walk, fun p hp => ?_, fun p hp q hq h => ?_, hI.anns, hI.annP⟩
  · rw [getD_set' hls]
    split
    · rename_i he
      exact .inr ⟨_, List.mem_cons_self, he.symm⟩
    · exact (hI.sfxU x hx).elim .inl fun ⟨p, hp, he⟩ => .inr ⟨p, List.mem_cons_of_mem _ hp, he⟩
  · have g1 := g.early (F' := Fp F (⟨j, d, w.heap.size, size, val, ob, oo, v⟩ :: pend)) (v := val) (dst_lt hdN ho d hd) b1 b2 hF
    rw [← hd] at g1
    refine R.ext ⟨gb, g1⟩ ?_ ?_ fun t => ?_
    · rw [put_heap]; rfl
    · rw [put_next]; rfl
    · have e : over (hide s (hid ops.toList listed pre)) (⟨j, d, w.heap.size, size, val, ob, oo, v⟩ :: pend) = (over (hide s (hid ops.toList listed pre)) pend).put o.dst (.lit val) := by rw [hd]; rfl
      rw [← e]
      refine over_ext (fun t _ => ?_) t
      rw [get_hide, get_hide]
      by_cases hm : t ∈ hid ops.toList (listed.setIfInBounds j true) pre
      · rw [if_pos hm]; exact .inr rfl
      · rw [if_neg hm, if_neg]
        · exact .inl rfl
        · exact fun hm2 => hm (hid_next hls ho (fun _ h => h) (.inr hjp) hm2)
  · refine hI.pin k hk ?_
    rw [getD_set' hls] at hlk
    split at hlk
    · cases hlk
    · exact hlk
  · rcases List.mem_cons.1 hp with rfl | hp
    · refine ⟨hjs, ?_, ⟨o, ho, hE, hnw, hpp⟩, b3, hrep, g.kept.size, fun o hf => ?_⟩
      · show (listed.setIfInBounds j true).getD j false = true
        rw [getD_set' hls, if_pos rfl]
      · have := g.ok.FB _ o (.inl hf)
        exact Nat.lt_irrefl _ this
    · have h := hI.pds p hp
      refine ⟨h.mem, ?_, h.op, (b1.block p.g (hpg p hp)).trans h.blk, h.rep, h.new0, h.notF⟩
      rw [getD_set' hls, if_neg (hpne p hp)]
      exact h.lst
  · rcases List.mem_cons.1 hp with rfl | hp <;> rcases List.mem_cons.1 hq with rfl | hq
    · rfl
    · rcases h with h | h
      · exact absurd h.symm (hpne q hq)
      · have := hpg q hq
        simp only at h
        omega
    · rcases h with h | h
      · exact absurd h (hpne p hp)
      · have := hpg p hp
        simp only at h
        omega
    · exact hI.pendI p hp q hq h
/-- The turn of an allocation that is already done. -/
theorem Inv.named (hR : RegOk T ops.toList) (hI : Inv P T A N F w0 gb0 H0 ops Ka pre ann pend ((i, pins, done) :: r) s listed a w) {p : Pd} (hp : p ∈ pend) (hpi : p.i = i) :
    ∃ pend' s', Inv P T A N F w0 gb0 H0 ops Ka (i :: pre) ann pend' r s' listed a w := by
  obtain ⟨o', ho', hnp, hpr, hok, _, hEr⟩ := step_spec hI.ok
  have hP := hI.pds p hp
  obtain ⟨o, ho, hE, hnw, hpp⟩ := hP.op
  rw [hpi] at ho
  have e : o' = o := by
    rw [Array.getElem?_toList, ho] at ho'
    injection ho' with ho'
    exact ho'.symm
  subst e
  obtain ⟨hg0, hin, hnR, hpR⟩ := isE_spec hE
  obtain ⟨_, hchain, hpin⟩ := hEr hnR
  rw [annN_E ho hnR] at hok
  have hd := (newOf_op hnw).1
  have hlst : listed.getD i false = true := hpi ▸ hP.lst
  have hpl : ∀ k ∈ predsOf o', listed.getD k false = true := hI.closed i o' ho hlst
  have hdone : ∀ z ∈ done, listed.getD z false = true := chain_mem (fun z => listed.getD z false = true) hpl (fun z' oz hz hoz z hzz => hI.closed z' oz (by rw [← Array.getElem?_toList]; exact hoz) hz z hzz) done [] (fun z hz => by cases hz) hchain
  have hw := hI.walk
  unfold rkD at hw
  rw [ho'] at hw
  simp only [hnR, cond_false] at hw
  unfold geff at hw
  have hgs : gsem ops.toList s o' = some true := by unfold gsem; rw [hg0]
  rw [hgs] at hw
  simp only at hw
  unfold eff1 at hw
  rw [newOf_fop hnw] at hw
  simp only at hw
  have hdst : dstD o' ((s.fresh p.oo).set p.d (p.v s.next)) = p.v s.next := by
    unfold dstD
    rw [hd]
    simp only
    rw [AS.get_set, if_pos rfl]
  rw [hdst] at hw
  obtain ⟨hpo, hwalk⟩ := hw
  obtain ⟨gb, g⟩ := hI.good
  have hF : ∀ b o, Fp F pend b o ↔ Fp F (pend.filter fun q => !Nat.beq q.i i) b o ∨ b = p.g := fun b o => by
    unfold Fp
    constructor
    · rintro (h | ⟨q, hq, he⟩)
      · exact .inl (.inl h)
      · by_cases hqi : q.i = i
        · have := hI.pendI q hq p hp (.inl (hqi.trans hpi.symm))
          subst this
          exact .inr he.symm
        · refine .inl (.inr ⟨q, List.mem_filter.2 ⟨hq, ?_⟩, he⟩)
          rw [Bool.not_eq_true', ← Bool.not_eq_true]
          exact fun h => hqi (Nat.eq_of_beq_eq_true h)
    · rintro ((h | ⟨q, hq, he⟩) | h)
      · exact .inl h
      · exact .inr ⟨q, (List.mem_filter.1 hq).1, he⟩
      · exact .inr ⟨p, hp, h.symm⟩
  have hmem' : ∀ q ∈ (pend.filter fun q => !Nat.beq q.i i), q ∈ pend ∧ q.i ≠ i := fun q hq => by
    obtain ⟨h1, h2⟩ := List.mem_filter.1 hq
    refine ⟨h1, fun e => ?_⟩
    rw [e] at h2
    simp at h2
  have hnF : ∀ o, ¬ Fp F (pend.filter fun q => !Nat.beq q.i i) p.g o := by
    rintro o (h | ⟨q, hq, he⟩)
    · exact hP.notF o h
    · obtain ⟨h1, h2⟩ := hmem' q hq
      have := hI.pendI q h1 p hp (.inr he)
      rw [this] at h2
      exact h2 hpi
  have g2 := g.name (oo := p.oo) (size := p.size) hF hnF hP.new0 (hP.rep w _ _ s.next hP.blk (gbn_at gb s.next _)).1
  have hst : ∀ t, o'.dst ≠ some t → ((s.fresh p.oo).set p.d (p.v s.next)).get t = s.get t := fun t ht => by
    rw [AS.get_set, if_neg]
    · rfl
    · intro e; exact ht (by rw [hd, e])
  have hhp := hI.headP ho hpr
  have hval : a.tmps.getD p.d undef = p.val := by
    have h := g.slots p.d
    rw [over_at hp fun q hq h => hI.dI hR hp hq h] at h
    exact rep_lit h
  refine ⟨pend.filter fun q => !Nat.beq q.i i, (s.fresh p.oo).set p.d (p.v s.next), hI.size, hI.head, hI.closed, fun x hx => ?_, hhp.1, ?_, hhp.2, fun k hk hl => ?_, hok, ?_, fun q hq => ?_, fun q hq q' hq' h => hI.pendI q (hmem' q hq).1 q' (hmem' q' hq').1 h, fun k hk => (hI.ann_next hR ho hnp (fun j hj => (hpr j hj).1) hst hk).1, fun k hk => (hI.ann_next hR ho hnp (fun j hj => (hpr j hj).1) hst hk).2⟩
  · rcases hI.sfxU x (List.mem_cons_of_mem _ hx) with h | ⟨q, hq, he⟩
    · exact .inl h
    · refine .inr ⟨q, List.mem_filter.2 ⟨hq, ?_⟩, he⟩
      rw [Bool.not_eq_true', ← Bool.not_eq_true]
      intro h
      have hxi : x.1 = i := he.symm.trans (Nat.eq_of_beq_eq_true h)
      exact sfx_notin r (i :: pre) ann hok x.1 (List.mem_map_of_mem hx) (by rw [hxi]; exact List.mem_cons_self)
  · refine ⟨gbn gb s.next (p.g, p.size), g2.reslot (s' := over (hide ((s.fresh p.oo).set p.d (p.v s.next)) (hid ops.toList listed (i :: pre))) (pend.filter fun q => !Nat.beq q.i i)) rfl rfl fun t => ?_⟩
    by_cases ht : ∃ q ∈ (pend.filter fun q => !Nat.beq q.i i), q.d = t
    · obtain ⟨q, hq, rfl⟩ := ht
      have h := g2.slots q.d
      have e1 : ((over (hide s (hid ops.toList listed pre)) pend).fresh p.oo).get q.d = .lit q.val := over_at (hmem' q hq).1 fun q' hq' h => hI.dI hR (hmem' q hq).1 hq' h
      rw [over_at hq fun q' hq' h => hI.dI hR (hmem' q hq).1 (hmem' q' hq').1 h]
      rw [e1] at h
      exact h
    · have ht' : ∀ q ∈ (pend.filter fun q => !Nat.beq q.i i), q.d ≠ t := fun q hq e => ht ⟨q, hq, e⟩
      rw [over_ne ht', get_hide]
      by_cases hm : t ∈ hid ops.toList listed (i :: pre)
      · rw [if_pos hm]; exact .dead _
      · rw [if_neg hm, AS.get_set]
        by_cases htd : t = p.d
        · subst htd
          rw [if_pos rfl, hval]
          exact (hP.rep w _ _ s.next hP.blk (gbn_at gb s.next _)).2
        · rw [if_neg htd]
          have h := g2.slots t
          have e1 : ((over (hide s (hid ops.toList listed pre)) pend).fresh p.oo).get t = (over (hide s (hid ops.toList listed pre)) pend).get t := rfl
          rw [e1, over_ne, get_hide, if_neg] at h
          · exact h
          · intro hm2
            obtain ⟨k, ok, hk, hl, hok', hdk⟩ := mem_hid.1 hm2
            exact hm (mem_hid.2 ⟨k, ok, List.mem_cons_of_mem _ hk, hl, hok', hdk⟩)
          · intro q hq e
            by_cases hqi : q.i = i
            · have := hI.pendI q hq p hp (.inl (hqi.trans hpi.symm))
              rw [this] at e
              exact htd e.symm
            · refine ht' q (List.mem_filter.2 ⟨hq, ?_⟩) e
              rw [Bool.not_eq_true', ← Bool.not_eq_true]
              exact fun h => hqi (Nat.eq_of_beq_eq_true h)
  · have hki : k ≠ i := fun e => by rw [e, hlst] at hl; cases hl
    have := pin_after hR hI ho hnp hpl hdone hpin hpo ((List.mem_cons.1 hk).elim (fun e => absurd e hki) id) hl
    rw [hd] at this
    exact this
  · rw [hd] at hwalk
    exact hwalk
  · exact hI.pd_next hR ho hnp (fun j hj => (hpr j hj).1) hst (hmem' q hq).1 (hmem' q hq).2 (hI.pds q (hmem' q hq).1).lst rfl
/-- What changes the heap, when it is its turn. -/
theorem Inv.turn {fuel : Nat} (hT : T.Ok P) (hR : RegOk T ops.toList) (hdN : ∀ o ∈ ops.toList, okD N o = true) (ih : ∀ (sfx : List (Nat × List Nat × List Nat)) (ann : List Nat) (pend : List Pd) (pre : List Nat) (s : AS) (listed : Array Bool) (a : Act) (w : World), unl ops.size listed ≤ fuel → Inv P T A N F w0 gb0 H0 ops Ka pre ann pend sfx s listed a w → wpAny P .any ops Q fuel listed a w)
    (hu : unl ops.size listed ≤ fuel + 1) (hI : Inv P T A N F w0 gb0 H0 ops Ka pre ann pend ((i, pins, done) :: r) s listed a w) (hi : i ∈ Region.ready .any ops listed) (ho : ops[i]? = some o) (hRo : isR T o = false) : wpOp P ops Q i (wpAny P .any ops Q fuel (listed.setIfInBounds i true)) a w := by
  obtain ⟨o', ho', hnp, hpr, hok, _, hE⟩ := step_spec hI.ok
  have e : o' = o := by
    rw [Array.getElem?_toList, ho] at ho'
    injection ho' with ho'
    exact ho'.symm
  subst e
  obtain ⟨_, hchain, hpin⟩ := hE hRo
  rw [annN_E ho hRo] at hok
  obtain ⟨h1, hls, hpl⟩ := ready_spec hi hI.size ho
  have hlt := (Array.getElem?_eq_some_iff.1 ho).1
  have hdone : ∀ z ∈ done, listed.getD z false = true := chain_mem (fun z => listed.getD z false = true) hpl (fun z' oz hz hoz z hzz => hI.closed z' oz (by rw [← Array.getElem?_toList]; exact hoz) hz z hzz) done [] (fun z hz => by cases hz) hchain
  have hag := names_agree hR hI ho hpl (fun j hj => (hpr j hj).1) h1
  have hw := hI.walk
  unfold rkD at hw
  rw [ho'] at hw
  simp only [hRo, cond_false] at hw
  have hpne : ∀ p ∈ pend, p.i ≠ i := fun p hp e => by have := (hI.pds p hp).lst; rw [e, h1] at this; cases this
  have hpd : ∀ k, o'.dst = some k → ∀ p ∈ pend, p.d ≠ k := fun k hk p hp => hI.pd hR hp ho hk (hpne p hp)
  obtain ⟨gb, g⟩ := hI.good
  refine geff_keep hT ho (dst_lt hdN ho) (geff_agree hag rfl rfl hw) g fun H' n' v hKK a' w' hr' hkeep => ?_
  obtain ⟨hpo, hwalk⟩ := hKK
  have hst : ∀ t, o'.dst ≠ some t → ((⟨s.env, H', n'⟩ : AS).put o'.dst v).get t = s.get t := fun t ht => by rw [get_put, if_neg ht]; rfl
  have hhp := hI.headP ho hpr
  refine ih r ann pend (i :: pre) _ _ a' w' (by have := unl_lt hlt hls h1; omega) ⟨by simp [hI.size], hI.head, closed_next hI hls ho hpl, fun x hx => ?_, hhp.1, ?_, hhp.2, fun k hk hlk => ?_, hok, hwalk, fun p hp => ?_, hI.pendI, fun k hk => (hI.ann_next hR ho hnp (fun j hj => (hpr j hj).1) hst hk).1, fun k hk => (hI.ann_next hR ho hnp (fun j hj => (hpr j hj).1) hst hk).2⟩
  · rw [getD_set' hls]
    split
    · rename_i he
      exact absurd (by rw [he]; exact List.mem_cons_self) (sfx_notin r (i :: pre) ann hok x.1 (List.mem_map_of_mem hx))
    · exact hI.sfxU x (List.mem_cons_of_mem _ hx)
  · refine (hr'.ext (s' := over ((⟨(hide s (hid ops.toList listed pre)).env, H', n'⟩ : AS).put o'.dst v) pend) ?_ ?_ fun t => .inl (over_put (s := ⟨(hide s (hid ops.toList listed pre)).env, H', n'⟩) hpd t)).ext ?_ ?_ (over_ext fun t _ => ?_)
    · show AS.heap _ = AS.heap _
      rw [put_heap]
      show ((⟨_, H', n'⟩ : AS).put o'.dst v).heap = _
      rw [put_heap]
    · show AS.next _ = AS.next _
      rw [put_next]
      show ((⟨_, H', n'⟩ : AS).put o'.dst v).next = _
      rw [put_next]
    · show ((⟨_, H', n'⟩ : AS).put o'.dst v).heap = ((⟨_, H', n'⟩ : AS).put o'.dst v).heap
      rw [put_heap, put_heap]
    · show ((⟨_, H', n'⟩ : AS).put o'.dst v).next = ((⟨_, H', n'⟩ : AS).put o'.dst v).next
      rw [put_next, put_next]
    · rw [get_hide]
      by_cases hm : t ∈ hid ops.toList (listed.setIfInBounds i true) (i :: pre)
      · rw [if_pos hm]; exact .inr rfl
      · rw [if_neg hm, get_put, get_put]
        by_cases htd : o'.dst = some t
        · rw [if_pos htd, if_pos htd]; exact .inl rfl
        · rw [if_neg htd, if_neg htd]
          refine .inl ?_
          show s.get t = (hide s (hid ops.toList listed pre)).get t
          rw [get_hide, if_neg]
          exact fun hm2 => hm (hid_next hls ho (fun _ h => List.mem_cons_of_mem _ h) (.inl htd) hm2)
  · have hlk' : k ≠ i ∧ listed.getD k false = false := by
      rw [getD_set' hls] at hlk
      split at hlk
      · cases hlk
      · exact ⟨by assumption, hlk⟩
    exact pin_after hR hI ho hnp hpl hdone hpin hpo ((List.mem_cons.1 hk).elim (fun e => absurd e hlk'.1) id) hlk'.2
  · refine hI.pd_next hR ho hnp (fun j hj => (hpr j hj).1) hst hp (hpne p hp) ?_ (hkeep p.g 0 (.inr ⟨p, hp, rfl⟩))
    rw [getD_set' hls, if_neg (hpne p hp)]
    exact (hI.pds p hp).lst
theorem Inv.hallL (hI : Inv P T A N F w0 gb0 H0 ops Ka pre ann pend [] s listed a w) (hr : Region.ready .any ops listed = []) : R P N F w0 gb0 H0 s a w ∧ Ka s := by
  have hpn : pend = [] := List.eq_nil_iff_forall_not_mem.2 fun p hp => by have := (hI.pds p hp).mem; cases this
  subst hpn
  have hall : ∀ i, i < ops.size → listed.getD i false = true := by
    intro i
    induction i using Nat.strongRecOn with
    | _ i ih =>
      intro hi
      rcases hl : listed.getD i false with _ | _
      · exfalso
        have ho : ops[i]? = some ops[i] := Array.getElem?_eq_getElem hi
        have hip : i ∈ pre := (hI.all i hi).elim id (fun h => by simp at h)
        have : i ∈ Region.ready .any ops listed := mem_ready.2 ⟨by rw [getD_true (by rw [hI.size]; exact hi)]; exact hl, _, ho, fun e he hb => by
          have hj := mem_preds.2 ⟨e, he, rfl, hb⟩
          have hlt := hI.fwd i hip _ ho _ hj
          exact ih e.on hlt (by omega)⟩
        rw [hr] at this
        cases this
      · rfl
  have hw := hI.walk
  unfold rkD at hw
  refine ⟨?_, hw⟩
  have hg := hI.good
  rw [Fp_nil] at hg
  refine hg.ext rfl rfl fun t => .inl ?_
  rw [over_ne (fun p hp => by cases hp), get_hide, if_neg]
  intro hm
  obtain ⟨k, ok, hk, hl, hok, _⟩ := mem_hid.1 hm
  have hlt := (List.getElem?_eq_some_iff.1 hok).1
  rw [hall k (by simpa using hlt)] at hl
  cases hl
theorem Inv.none_ready (hI : Inv P T A N F w0 gb0 H0 ops Ka pre ann pend ((i, pins, done) :: r) s listed a w) (hl : listed.getD i false = false) (hr : Region.ready .any ops listed = []) : False := by
  obtain ⟨o, ho, hnp, hpr, hok, _⟩ := step_spec hI.ok
  rw [Array.getElem?_toList] at ho
  have hlt := (Array.getElem?_eq_some_iff.1 ho).1
  have hpre : ∀ k, k ∈ pre → k < ops.size → listed.getD k false = true := by
    intro k
    induction k using Nat.strongRecOn with
    | _ k ih =>
      intro hk hks
      rcases hl : listed.getD k false with _ | _
      · exfalso
        have hok' : ops[k]? = some ops[k] := Array.getElem?_eq_getElem hks
        have : k ∈ Region.ready .any ops listed := mem_ready.2 ⟨by rw [getD_true (by rw [hI.size]; exact hks)]; exact hl, _, hok', fun e he hb => by
          have hj := mem_preds.2 ⟨e, he, rfl, hb⟩
          have hlt := hI.fwd k hk _ hok' _ hj
          exact ih e.on hlt (hI.preP k hk _ hok' _ hj) (by omega)⟩
        rw [hr] at this
        cases this
      · rfl
  have : i ∈ Region.ready .any ops listed := mem_ready.2 ⟨by rw [getD_true (by rw [hI.size]; exact hlt)]; exact hl, o, ho, fun e he hb => by
    have hj := mem_preds.2 ⟨e, he, rfl, hb⟩
    have := hpr _ hj
    exact hpre e.on this.1 (by omega)⟩
  rw [hr] at this
  cases this
theorem unl_pos (hi : i < ops.size) (hl : listed.getD i false = false) : 0 < unl ops.size listed := by
  have : i ∈ (List.range ops.size).filter fun i => !listed.getD i false := by
    rw [List.mem_filter]; exact ⟨by simpa using hi, by rw [hl]; rfl⟩
  exact List.length_pos_of_mem this
theorem sched_any (hT : T.Ok P) (hR : RegOk T ops.toList) (hdN : ∀ o ∈ ops.toList, okD N o = true) (hK : ∀ s a w, Ka s → R P N F w0 gb0 H0 s a w → Q .normal a w) :
    ∀ (fuel : Nat) (sfx : List (Nat × List Nat × List Nat)) (ann : List Nat) (pend : List Pd) (pre : List Nat) (s : AS) (listed : Array Bool) (a : Act) (w : World), unl ops.size listed ≤ fuel → Inv P T A N F w0 gb0 H0 ops Ka pre ann pend sfx s listed a w → wpAny P .any ops Q fuel listed a w := by
  intro fuel
  induction fuel with
  | zero =>
    intro sfx
    induction sfx with
    | nil =>
      intro ann pend pre s listed a w hu hI
      have hr : Region.ready .any ops listed = [] := by
        rw [List.eq_nil_iff_forall_not_mem]
        intro i hi
        obtain ⟨_, o, ho, _⟩ := mem_ready.1 hi
        have := unl_pos (Array.getElem?_eq_some_iff.1 ho).1 (ready_spec hi hI.size ho).1
        omega
      obtain ⟨h1, h2⟩ := hI.hallL hr
      exact ⟨hr, hK s a w h2 h1⟩
    | cons x sfx ihs =>
      intro ann pend pre s listed a w hu hI
      obtain ⟨i, pins, done⟩ := x
      rcases hI.sfxU _ (List.mem_cons_self) with hl | ⟨p, hp, he⟩
      · obtain ⟨o, ho, _⟩ := step_spec hI.ok
        rw [Array.getElem?_toList] at ho
        have := unl_pos (Array.getElem?_eq_some_iff.1 ho).1 hl
        omega
      · obtain ⟨pend', s', hI'⟩ := hI.named hR hp he
        exact ihs _ _ _ _ _ _ _ hu hI'
  | succ fuel ih =>
    intro sfx
    induction sfx with
    | nil =>
      intro ann pend pre s listed a w hu hI
      refine ⟨fun hr => ?_, fun j hj => hI.late hT hR hdN ih hu hj ?_⟩
      · obtain ⟨h1, h2⟩ := hI.hallL hr
        exact hK s a w h2 h1
      · obtain ⟨_, o, ho, _⟩ := mem_ready.1 hj
        have hlt := (Array.getElem?_eq_some_iff.1 ho).1
        exact (hI.all j hlt).elim id (fun h => by simp at h)
    | cons x sfx ihs =>
      intro ann pend pre s listed a w hu hI
      obtain ⟨i, pins, done⟩ := x
      obtain ⟨o, ho, hnp, hpr, hok, _, hE⟩ := step_spec hI.ok
      have ho2 : ops[i]? = some o := by rw [← Array.getElem?_toList]; exact ho
      cases hRo : isR T o with
      | true =>
        obtain ⟨s', hI'⟩ := hI.move hR ho2 hRo
        exact ihs _ _ _ _ _ _ _ hu hI'
      | false =>
        rcases hI.sfxU _ (List.mem_cons_self) with hl | ⟨p, hp, he⟩
        · refine ⟨fun hr => (hI.none_ready hl hr).elim, fun j hj => ?_⟩
          obtain ⟨_, oj, hoj, _⟩ := mem_ready.1 hj
          obtain ⟨h1, hls, hall⟩ := ready_spec hj hI.size hoj
          have hlt := (Array.getElem?_eq_some_iff.1 hoj).1
          rcases hI.all j hlt with h | h
          · exact hI.late hT hR hdN ih hu hj h
          · have h' := h
            rw [List.map_cons] at h
            rcases List.mem_cons.1 h with h | h
            · simp only at h
              subst h
              exact hI.turn hT hR hdN ih hu hj ho2 hRo
            · have hnjp := sfx_notin _ pre ann hI.ok j h'
              rcases (hE hRo).1 j h oj (at_list hoj) with ⟨k, hk, hkp, hki⟩ | ⟨hEj, hst⟩
              · exfalso
                have hkl := hall k hk
                rcases hki with rfl | ⟨ok, hok2, hEk⟩
                · rw [hl] at hkl; cases hkl
                have hks : k < ops.size := by
                  rcases Nat.lt_or_ge k ops.size with h | h
                  · exact h
                  · rw [Array.getD_eq_getD_getElem?, Array.getElem?_eq_none (by rw [hI.size]; exact h)] at hkl; cases hkl
                rcases hI.all k hks with h | h
                · exact hkp h
                · obtain ⟨x, hx, rfl⟩ := List.mem_map.1 h
                  rcases hI.sfxU x hx with h | ⟨p, hp, he⟩
                  · rw [h] at hkl; cases hkl
                  · obtain ⟨op, hop, hEp, _⟩ := (hI.pds p hp).op
                    rw [← he, Array.getElem?_toList, hop] at hok2
                    injection hok2 with hok2
                    rw [hok2, hEk] at hEp; cases hEp
              · refine hI.early hT hR hdN ih hu hj h' hoj hEj ?_
                rcases hst with hst | hst
                · exact stE_some hst _
                · rcases hI.anns j hst with h | ⟨o2, ho3, h⟩
                  · exact absurd h hnjp
                  · rw [hoj] at ho3
                    injection ho3 with ho3
                    rw [ho3]; exact h
        · obtain ⟨pend', s', hI'⟩ := hI.named hR hp he
          exact ihs _ _ _ _ _ _ _ hu hI'
end
/-- A region that draws its order, by a schedule. -/
theorem draw_sound {ops : Array Oper} {id : Nat} {Ka : AS → Prop} {sch : List (Nat × List Nat × List Nat)} (hT : T.Ok P) (hm : P.follows .mixedOrders = true) (hs : okReg T ops.toList sch = true) (hdN : ∀ o ∈ ops.toList, okD N o = true) (hr : R P N F w0 gb0 H0 s a w) (h : rkD P T A ops.toList sch s Ka)
    (hK : ∀ s' a' w', Ka s' → R P N F w0 gb0 H0 s' a' w' → Q .normal a' w') : (Code.region id ops true).wp P Q a w := by
  obtain ⟨h1, h2, h3⟩ := okReg_spec hs
  refine wp_region_any hm (sched_any hT h3 hdN hK ops.size sch [] [] [] s _ a _ ?_ ⟨by simp, fun i hi => .inr (h2 i (by simpa using hi)), fun i o ho hl => ?_, fun x _ => .inl ?_, fun i hi => (by cases hi), ?_, fun i hi => (by cases hi), fun i hi => (by cases hi), h1, h, fun p hp => (by cases hp), fun p hp => (by cases hp), fun k hk => (by cases hk), fun k hk => (by cases hk)⟩)
  · unfold unl
    exact Nat.le_trans (List.length_filter_le _ _) (by simp)
  · have hlt := (Array.getElem?_eq_some_iff.1 ho).1
    simp [Array.getD_eq_getD_getElem?, hlt] at hl
  · rw [Array.getD_eq_getD_getElem?]
    cases hx : (Array.replicate ops.size false)[x.1]? with
    | none => rfl
    | some b =>
      have := Array.getElem?_eq_some_iff.1 hx
      obtain ⟨hlt, hb⟩ := this
      simp at hb
      rw [← hb]; rfl
  · rw [Fp_nil]
    obtain ⟨gb, g⟩ := hr
    have g1 : Good P N F w0 gb0 H0 s a { w with drawn := w.drawn + 1 } gb := g.world ((Below.refl _ w).drew)
    refine R.ext ⟨gb, g1⟩ rfl rfl fun t => .inl ?_
    rw [over_ne (fun p hp => by cases hp), get_hide, if_neg]
    unfold hid
    simp
end
end Go.Proofs.Ytheanmfdfoefoaa.Hv
