/- Abstract values: what the operations do with them. Plain: over any program. -/
import Derived.Test.YtpemfmlonamikaaAv
namespace Go.Proofs.Ytpemfmlonamikaa.Av
open Go Go.RowKit

def ox {α : Type} (o : Option α) (K : α → Prop) : Prop := match o with | some a => K a | none => False
theorem ox_some {α : Type} (a : α) (K : α → Prop) : ox (some a) K = K a := rfl
theorem ox_iff {α : Type} {o : Option α} {K : α → Prop} : ox o K ↔ ∃ a, o = some a ∧ K a := by
  cases o <;> simp [ox]
structure SlI where
  e : Nat
  size : Nat
  bytes : Nat
  zero : Value
structure Tbl where
  sls : List (Nat × SlI)
  szs : List (Nat × Option Nat)
  flds : List (Nat × List (Nat × Nat))
  ints : List (Nat × IntKind)
  strs : List Nat
  zeros : List (Nat × Value)
  fszs : List (Nat × List (Nat × Nat))
  eqs : List (Nat × (List Value → List Value → Option Bool))
def lk? {α : Type} (l : List (Nat × α)) (t : Nat) : Option α := lkp none (l.map fun p => (p.1, some p.2)) t
theorem lk?_mem {α : Type} {l : List (Nat × α)} {t : Nat} {x : α} (h : lk? l t = some x) : (t, x) ∈ l := by
  induction l with
  | nil => cases h
  | cons p l ih =>
    unfold lk? at h
    simp only [List.map_cons, lkp] at h
    cases hb : Nat.beq p.1 t with
    | true =>
      rw [hb] at h
      have h1 : some p.2 = some x := h
      injection h1 with h1
      have h2 := Nat.eq_of_beq_eq_true hb
      rw [← h1, ← h2]; exact List.mem_cons_self
    | false =>
      rw [hb] at h
      exact List.mem_cons_of_mem _ (ih h)
def okSl (P : Program) (p : Nat × SlI) : Prop := ElemT P p.1 p.2.e p.2.zero p.2.size p.2.bytes
def isAggD : TypeDesc → Bool | .struct _ | .array _ _ => true | _ => false
def okSz (P : Program) (p : Nat × Option Nat) : Prop := match p.2 with
  | none => (P.underlying p.1).map isAggD = some false ∧ (P.info? p.1).map (·.size) = some 1
  | some n => (P.underlying p.1).map isAggD = some true ∧ (P.info? p.1).map (·.size) = some n
def fldOf (P : Program) (t i : Nat) : Option (Nat × Bool) := match P.underlying t with
  | some (.struct fs) => match fs[i]? with
    | some f => match P.info? f.type with
      | some j => some (f.offset, Nat.beq j.size 0)
      | none => none
    | none => none
  | _ => none
def placesOf (P : Program) (t : Nat) : Option (List (Nat × Nat)) := match P.underlying t with
  | some (.struct fs) => fs.toList.mapM fun f => (P.info? f.type).map fun i => (f.offset, i.size)
  | _ => none
def okFsz (P : Program) (p : Nat × List (Nat × Nat)) : Prop := placesOf P p.1 = some p.2
def okZero (P : Program) (p : Nat × Value) : Prop := (P.info? p.1).map (·.zero) = some (some p.2)
/-- Equality of structs of this type: a function of their cells. -/
def okEq (P : Program) (p : Nat × (List Value → List Value → Option Bool)) : Prop :=
  ∀ us vs b, p.2 us vs = some b → ∀ (X Y : Operand) (w : World), ((do eqGuard .eql p.1 X Y (.agg us.toArray) (.agg vs.toArray); binOp .eql p.1 (.agg us.toArray) (.agg vs.toArray)) : Sem Value).run P w = .ok (.bool b) w ∧
    ((do eqGuard .neq p.1 X Y (.agg us.toArray) (.agg vs.toArray); binOp .neq p.1 (.agg us.toArray) (.agg vs.toArray)) : Sem Value).run P w = .ok (.bool !b) w
def okFld (P : Program) (p : Nat × List (Nat × Nat)) : Prop := ∀ q ∈ p.2, fldOf P p.1 q.1 = some (q.2, false)
structure Tbl.Ok (P : Program) (T : Tbl) : Prop where
  sls : ∀ p ∈ T.sls, okSl P p
  szs : ∀ p ∈ T.szs, okSz P p
  flds : ∀ p ∈ T.flds, okFld P p
  ints : ∀ p ∈ T.ints, P.underlying p.1 = some (.int p.2)
  strs : ∀ p ∈ T.strs, P.underlying p = some .string
  zeros : ∀ p ∈ T.zeros, okZero P p
  fszs : ∀ p ∈ T.fszs, okFsz P p
  eqs : ∀ p ∈ T.eqs, okEq P p

/-! ### readings -/
def AV.bool? : AV → Option Bool | .lit (.bool b) => some b | _ => none
def AV.int? : AV → Option (IntKind × Int) | .lit (.int k n) => some (k, n) | _ => none
def AV.lit? : AV → Option Value | .lit v => some v | _ => none
def AV.its? : AV → Option (List (List AV))
  | .sl items => some items
  | .own _ _ items => some items
  | .lit v => bif isNilV v then some [] else none
  | _ => none
def AV.cells : AV → List AV
  | .agg cs => cs
  | .lit (.agg cs) => cs.toList.map .lit
  | a => [a]
def aint (op : BinOp) (k : IntKind) (a b : Int) : Option Value :=
  match op with
  | .add => some (.int k (k.wrap (a + b)))
  | .sub => some (.int k (k.wrap (a - b)))
  | .mul => some (.int k (k.wrap (a * b)))
  | .quo => if b = 0 then none else some (.int k (k.wrap (a.tdiv b)))
  | .rem => if b = 0 then none else some (.int k (a.tmod b))
  | .eql => some (.bool (a == b))
  | .neq => some (.bool (a != b))
  | .lss => some (.bool (decide (a < b)))
  | .leq => some (.bool (decide (a ≤ b)))
  | .gtr => some (.bool (decide (a > b)))
  | .geq => some (.bool (decide (a ≥ b)))
  | .and => some (.int k (k.wrap ((BitVec.ofInt k.bits a &&& BitVec.ofInt k.bits b).toNat)))
  | .or => some (.int k (k.wrap ((BitVec.ofInt k.bits a ||| BitVec.ofInt k.bits b).toNat)))
  | .xor => some (.int k (k.wrap ((BitVec.ofInt k.bits a ^^^ BitVec.ofInt k.bits b).toNat)))
  | .andNot => some (.int k (k.wrap ((BitVec.ofInt k.bits a &&& ~~~(BitVec.ofInt k.bits b)).toNat)))
  | _ => none
def ashift (op : BinOp) (k : IntKind) (a b : Int) : Option Value :=
  if b < 0 then none else match op with
  | .shl => some (.int k (k.wrap (a * 2 ^ (min b.toNat k.bits))))
  | .shr => some (.int k (a.fdiv (2 ^ (min b.toNat k.bits))))
  | _ => none
def astr (op : BinOp) (a b : ByteArray) : Option Value :=
  match op with
  | .add => if 9223372036854775807 < a.size + b.size then none else some (.string (a ++ b))
  | .eql => some (.bool (a.toList == b.toList))
  | .neq => some (.bool (!(a.toList == b.toList)))
  | .lss => some (.bool (Op.bytesLess a.toList b.toList))
  | .leq => some (.bool (Op.bytesLess a.toList b.toList || a.toList == b.toList))
  | .gtr => some (.bool (!(Op.bytesLess a.toList b.toList || a.toList == b.toList)))
  | .geq => some (.bool (!(Op.bytesLess a.toList b.toList)))
  | _ => none
def isShift : BinOp → Bool | .shl | .shr => true | _ => false
def abin (op : BinOp) (x y : Value) : Option Value :=
  match x, y with
  | .int k a, .int k' b => bif isShift op then ashift op k a b else bif decide (k = k') then aint op k a b else none
  | .string a, .string b => astr op a b
  | _, _ => none
def lits : List AV → Option (List Value)
  | [] => some []
  | .lit v :: r => match lits r with
    | some vs => some (v :: vs)
    | none => none
  | _ :: _ => none
def AV.aggc? : AV → Option (List Value)
  | .agg cs => lits cs
  | .lit (.agg cs) => some cs.toList
  | _ => none
def aeq (T : Tbl) (op : BinOp) (t : Nat) (us vs : List Value) : Option Value :=
  match lk? T.eqs t with
  | some f => match f us vs with
    | some b => match op with
      | .eql => some (.bool b)
      | .neq => some (.bool !b)
      | _ => none
    | none => none
  | none => none
def binv (T : Tbl) (op : BinOp) (t : Nat) (x y : AV) : Option Value :=
  match x.lit?, y.lit? with
  | some u, some v => match abin op u v with
    | some r => some r
    | none => match x.aggc?, y.aggc? with
      | some us, some vs => aeq T op t us vs
      | _, _ => none
  | _, _ => match x.aggc?, y.aggc? with
    | some us, some vs => aeq T op t us vs
    | _, _ => none
theorem abin_run {P : Program} {op : BinOp} {t : TypeId} {x y v : Value} (h : abin op x y = some v) (X Y : Operand) (w : World) : ((do eqGuard op t X Y x y; binOp op t x y) : Sem Value).run P w = .ok v w := by
  unfold abin at h
  split at h
  · rename_i k a k' b
    rw [eqGuard_at_int]
    cases hs : isShift op with
    | true =>
      rw [hs] at h
      simp only [cond_true, ashift] at h
      split at h
      · cases h
      · rename_i hb
        cases op <;> first | cases hs | skip
        all_goals
          simp only [Option.some.injEq] at h
          subst h
          simp [binOp, Op.shift, hb]
    | false =>
      rw [hs] at h
      simp only [cond_false] at h
      by_cases hk : k = k'
      · subst hk
        simp only [decide_true, cond_true] at h
        cases op <;> first | cases hs | skip
        all_goals
          simp only [aint] at h
          first
            | (cases h; done)
            | (split at h
               · cases h
               · rename_i hb
                 simp only [Option.some.injEq] at h
                 subst h
                 simp [binOp, Op.intDiv, hb])
            | (simp only [Option.some.injEq] at h
               subst h
               simp [binOp, Op.intArith, Op.intCmp, Op.intBits])
      · simp [hk] at h
  · rename_i a b
    rw [eqGuard_at_string]
    cases op <;> simp only [astr] at h <;> first
      | (cases h; done)
      | (split at h
         · cases h
         · rename_i hb
           simp only [Option.some.injEq] at h
           subst h
           exact run_string_add_sum w a b (by omega))
      | (simp only [Option.some.injEq] at h
         subst h
         simp [binOp, Op.stringOp])
  · cases h
def aun (op : UnOp) (x : Value) : Option Value :=
  match op, x with
  | .neg, .int k n => some (.int k (k.wrap (0 - n)))
  | .xor, .int k n => some (.int k (k.wrap ((BitVec.ofInt k.bits (if k.signed then -1 else k.max) ^^^ BitVec.ofInt k.bits n).toNat)))
  | .not, .bool b => some (.bool !b)
  | _, _ => none
theorem aun_run {P : Program} {op : UnOp} {x v : Value} (h : aun op x = some v) (w : World) : (Op.unary op x).run P w = .ok v w := by
  unfold aun at h
  split at h <;> first | (cases h; done) | (simp only [Option.some.injEq] at h; subst h; simp [Op.unary, Op.intArith, Op.intBits])

/-! ### reading what a state says -/
def AS.eval (s : AS) : Operand → AV
  | .tmp t => s.get t
  | .const v => .lit v
  | .global g => .lit (.pointer (some ⟨g, 0, none⟩))
  | .func f => .lit (.func (.func f) #[] #[])
section
variable {P : Program} {T : Tbl} {N : Nat} {F : Nat → Nat → Prop} {w0 w w' : World} {s : AS} {a : Act} {tok : Tok} {bx : Bx}
theorem Good.eval (g : Good P N F w0 s a w tok bx) (x : Operand) : SlotRep P w F tok bx (s.eval x) (a.eval x) := by
  cases x with
  | tmp t => exact g.slots t
  | const v => exact Rep.lit v
  | global n => exact Rep.lit _
  | func f => exact Rep.lit _
theorem rep_lit {v u : Value} (h : Rep w F (.lit v) u) : u = v := by cases h; rfl
theorem rep_bool {x : AV} {v : Value} {b : Bool} (h : SlotRep P w F tok bx x v) (hb : x.bool? = some b) : v = .bool b := by
  unfold AV.bool? at hb
  split at hb
  · simp only [Option.some.injEq] at hb; subst hb; exact rep_lit h
  · cases hb
theorem rep_int {x : AV} {v : Value} {k : IntKind} {n : Int} (h : SlotRep P w F tok bx x v) (hb : x.int? = some (k, n)) : v = .int k n := by
  unfold AV.int? at hb
  split at hb
  · simp only [Option.some.injEq, Prod.mk.injEq] at hb; obtain ⟨rfl, rfl⟩ := hb; exact rep_lit h
  · cases hb
theorem rep_lit? {x : AV} {v u : Value} (h : SlotRep P w F tok bx x v) (hb : x.lit? = some u) : v = u := by
  unfold AV.lit? at hb
  split at hb
  · simp only [Option.some.injEq] at hb; subst hb; exact rep_lit h
  · cases hb
theorem rep_its {x : AV} {v : Value} {items : List (List AV)} (h : SlotRep P w F tok bx x v) (hb : x.its? = some items) : Rep w (Wr F tok bx) (.sl items) v := by
  unfold AV.its? at hb
  split at hb
  · simp only [Option.some.injEq] at hb; subst hb; exact h
  · simp only [Option.some.injEq] at hb; subst hb; exact h.1
  · rename_i u
    have hu := rep_lit (show Rep w (Wr F tok bx) (.lit u) v from h)
    subst hu
    cases hn : isNilV v with
    | true =>
      rw [hn] at hb
      simp only [cond_true, Option.some.injEq] at hb
      subst hb
      unfold isNilV at hn
      split at hn
      · exact Rep.sl [] 0 none 0 0 0 (fun _ => undef) (by simp) (by simp) (by simp) (by simp) (by simp) (by simp) (by simp) (by simp)
      · cases hn
    | false => rw [hn] at hb; cases hb
  · cases hb
theorem rep_lits {cs : List AV} {us vs : List Value} (hl : cs.length = us.length) (h : ∀ (j : Nat) (c : AV) (u : Value), cs[j]? = some c → us[j]? = some u → Rep w F c u) (hv : lits cs = some vs) : us = vs := by
  induction cs generalizing us vs with
  | nil =>
    simp only [lits, Option.some.injEq] at hv
    subst hv
    exact List.eq_nil_of_length_eq_zero hl.symm
  | cons c cs ih =>
    cases us with
    | nil => simp at hl
    | cons u us =>
      cases c with
      | lit v =>
        simp only [lits] at hv
        split at hv
        · rename_i vs' hvs
          simp only [Option.some.injEq] at hv
          subst hv
          have h0 := h 0 (.lit v) u rfl rfl
          rw [rep_lit h0, ih (by simpa using hl) (fun j c u hc hu => h (j + 1) c u hc hu) hvs]
        · cases hv
      | _ => simp [lits] at hv
theorem rep_aggc {x : AV} {v : Value} {us : List Value} (h : SlotRep P w F tok bx x v) (hb : x.aggc? = some us) : v = .agg us.toArray := by
  unfold AV.aggc? at hb
  split at hb
  · have h' : Rep w (Wr F tok bx) (.agg _) v := h
    cases h' with
    | agg _ vs hl h1 hr => rw [rep_lits hl hr hb]
  · simp only [Option.some.injEq] at hb
    subst hb
    rw [rep_lit (show Rep w (Wr F tok bx) (.lit _) v from h)]
  · cases hb
theorem aeq_run {op : BinOp} {t : Nat} {us vs : List Value} {r : Value} (hT : T.Ok P) (h : aeq T op t us vs = some r) (X Y : Operand) (w : World) : ((do eqGuard op t X Y (.agg us.toArray) (.agg vs.toArray); binOp op t (.agg us.toArray) (.agg vs.toArray)) : Sem Value).run P w = .ok r w := by
  unfold aeq at h
  split at h
  · rename_i f hf
    split at h
    · rename_i b hb
      have := hT.eqs _ (lk?_mem hf) us vs b hb X Y w
      split at h
      · simp only [Option.some.injEq] at h; subst h; exact this.1
      · simp only [Option.some.injEq] at h; subst h; exact this.2
      · cases h
    · cases h
  · cases h
theorem binv_run {op : BinOp} {t : Nat} {x y : AV} {u v r : Value} (hT : T.Ok P) (hx : SlotRep P w F tok bx x u) (hy : SlotRep P w F tok bx y v) (h : binv T op t x y = some r) (X Y : Operand) : ((do eqGuard op t X Y u v; binOp op t u v) : Sem Value).run P w = .ok r w := by
  have ag : (match x.aggc?, y.aggc? with
      | some us, some vs => aeq T op t us vs
      | _, _ => none) = some r → ((do eqGuard op t X Y u v; binOp op t u v) : Sem Value).run P w = .ok r w := by
    intro h
    split at h
    · rename_i us vs hu hv
      rw [rep_aggc hx hu, rep_aggc hy hv]
      exact aeq_run hT h X Y w
    · cases h
  unfold binv at h
  split at h
  · rename_i u' v' hu hv
    split at h
    · rename_i r' hr
      simp only [Option.some.injEq] at h
      subst h
      rw [rep_lit? hx hu, rep_lit? hy hv]
      exact abin_run hr X Y w
    · exact ag h
  · exact ag h
theorem wp_val {o : Oper} {K : Act → World → Prop} {Q : Exit → Act → World → Prop} {v : Value} (h : (execOp a.eval o).run P w = .ok (.value v) w') (hK : K (a.put o.dst v) w') : o.wp P a w K Q := by
  unfold Oper.wp
  rw [h]
  exact hK
theorem flatten_at {items : List (List AV)} {sz : Nat} (hi : ∀ it ∈ items, it.length = sz) {k j : Nat} {it : List AV} {x : AV} (hk : items[k]? = some it) (hj : it[j]? = some x) : items.flatten[k * sz + j]? = some x := by
  induction items generalizing k with
  | nil => simp at hk
  | cons i items ih =>
    have h0 := hi i (by simp)
    cases k with
    | zero =>
      simp only [List.getElem?_cons_zero, Option.some.injEq] at hk
      subst hk
      have hlt := (List.getElem?_eq_some_iff.1 hj).1
      rw [List.flatten_cons, Nat.zero_mul, Nat.zero_add, List.getElem?_append_left hlt]; exact hj
    | succ k =>
      rw [List.flatten_cons, List.getElem?_append_right (by rw [h0, Nat.succ_mul]; omega), h0, show (k + 1) * sz + j - sz = k * sz + j from by rw [Nat.succ_mul]; omega]
      exact ih (fun it h => hi it (by simp [h])) (by simpa using hk)
/-- An element's address. -/
theorem rep_at {items : List (List AV)} {v : Value} {k sz : Nat} {it : List AV} (h : Rep w F (.sl items) v) (hk : items[k]? = some it) (hs : it.length = sz) :
    ∃ b off c, v = .slice (some ⟨b, off, none⟩) items.length c ∧ Rep w F (.ref it) (.pointer (some ⟨b, off + k * sz, none⟩)) := by
  cases h with
  | sl _ sz' A c b off val hi hc hm ha hcell hF h1 hr =>
    have hne : items ≠ [] := fun e => by subst e; simp at hk
    have hsz : sz' = sz := by rw [← hs]; exact (hi it (List.mem_of_getElem? hk)).symm
    subst hsz
    have key : ∀ (j : Nat) (x : AV), it[j]? = some x → items.flatten[k * sz' + j]? = some x := fun j x hj => flatten_at hi hk hj
    refine ⟨b, off, c, by rw [ha hne], Rep.ref it b (off + k * sz') (fun j => val (k * sz' + j)) (fun j x hj => ?_) (fun j x hj => ?_) (fun j x hj => h1 _ x (key j x hj)) (fun j x hj => hr _ x (key j x hj))⟩
    · have := hcell _ x (key j x hj); rwa [← Nat.add_assoc] at this
    · have := hF _ x (key j x hj); rwa [← Nat.add_assoc] at this
end
end Go.Proofs.Ytpemfmlonamikaa.Av
