/- Abstract values: the table of types, arithmetic, what reading an operand gives. Plain: over any program. -/
import Derived.Test.YtheanmfdfoefoaaHv
import Derived.Test.YtheanmfdfoefoaaHvFlat
set_option linter.unusedVariables false
set_option linter.unusedSimpArgs false
namespace Go.Proofs.Ytheanmfdfoefoaa.Hv
open Go Go.RowKit

structure SlI where
  e : Nat
  size : Nat
  bytes : Nat
  zero : Value
structure MpI where
  key : Nat
  elem : Nat
  zero : Value
structure Tbl where
  sls : List (Nat × SlI)
  szs : List (Nat × Option Nat)
  flds : List (Nat × List (Nat × Nat))
  ints : List (Nat × IntKind)
  strs : List Nat
  zeros : List (Nat × Value)
  fszs : List (Nat × List (Nat × Nat))
  eqs : List (Nat × (List Value → List Value → Option Bool))
  ptrs : List Nat
  bools : List Nat
  arrs : List (Nat × Nat × Nat × Nat)
  byts : List Nat
  maps : List (Nat × MpI)
  keys : List (Nat × List CK)
def lk? {α : Type} (l : List (Nat × α)) (t : Nat) : Option α := lkp none (l.map fun p => (p.1, some p.2)) t
theorem lk?_mem {α : Type} {l : List (Nat × α)} {t : Nat} {x : α} (h : lk? l t = some x) : (t, x) ∈ l := by
  induction l with
  | nil => cases h
  | cons p l ih =>
    unfold lk? at h
    simp only [List.map_cons, lkp] at h
    cases hb : Nat.beq p.1 t with
    | true =>
      rw [hb] at h
      have h1 : some p.2 = some x := h
      injection h1 with h1
      have h2 := Nat.eq_of_beq_eq_true hb
      rw [← h1, ← h2]; exact List.mem_cons_self
    | false =>
      rw [hb] at h
      exact List.mem_cons_of_mem _ (ih h)
def okSl (P : Program) (p : Nat × SlI) : Prop := ElemT P p.1 p.2.e p.2.zero p.2.size p.2.bytes
def isAggD : TypeDesc → Bool | .struct _ | .array _ _ => true | _ => false
def okSz (P : Program) (p : Nat × Option Nat) : Prop := match p.2 with
  | none => (P.underlying p.1).map isAggD = some false ∧ (P.info? p.1).map (·.size) = some 1
  | some n => (P.underlying p.1).map isAggD = some true ∧ (P.info? p.1).map (·.size) = some n
def fldOf (P : Program) (t i : Nat) : Option (Nat × Bool) := match P.underlying t with
  | some (.struct fs) => match fs[i]? with
    | some f => match P.info? f.type with
      | some j => some (f.offset, Nat.beq j.size 0)
      | none => none
    | none => none
  | _ => none
def placesOf (P : Program) (t : Nat) : Option (List (Nat × Nat)) := match P.underlying t with
  | some (.struct fs) => fs.toList.mapM fun f => (P.info? f.type).map fun i => (f.offset, i.size)
  | some (.array n e) => (P.info? e).map fun i => (List.range n).map fun k => (k * i.size, i.size)
  | _ => none
def okFsz (P : Program) (p : Nat × List (Nat × Nat)) : Prop := placesOf P p.1 = some p.2
def okZero (P : Program) (p : Nat × Value) : Prop := (P.info? p.1).map (·.zero) = some (some p.2)
/-- Equality of structs of this type: a function of their cells. -/
def okEq (P : Program) (p : Nat × (List Value → List Value → Option Bool)) : Prop :=
  ∀ us vs b, p.2 us vs = some b → ∀ (X Y : Operand) (w : World), ((do eqGuard .eql p.1 X Y (.agg us.toArray) (.agg vs.toArray); binOp .eql p.1 (.agg us.toArray) (.agg vs.toArray)) : Sem Value).run P w = .ok (.bool b) w ∧
    ((do eqGuard .neq p.1 X Y (.agg us.toArray) (.agg vs.toArray); binOp .neq p.1 (.agg us.toArray) (.agg vs.toArray)) : Sem Value).run P w = .ok (.bool !b) w
def okFld (P : Program) (p : Nat × List (Nat × Nat)) : Prop := ∀ q ∈ p.2, fldOf P p.1 q.1 = some (q.2, false)
def isPtrD : TypeDesc → Bool | .pointer _ => true | _ => false
def okPtr (P : Program) (p : Nat) : Prop := (P.underlying p).map isPtrD = some true
/-- An array: how many, a thing's type, its size. -/
def okArr (P : Program) (p : Nat × Nat × Nat × Nat) : Prop := P.underlying p.1 = some (.array p.2.1 p.2.2.1) ∧ (P.info? p.2.2.1).map (·.size) = some p.2.2.2
/-- Bytes. -/
def okByt (P : Program) (p : Nat) : Prop := ∃ e, P.underlying p = some (.slice e) ∧ P.underlying e = some (.int .u8) ∧ (P.info? e).map (·.size) = some 1
def okMap (P : Program) (p : Nat × MpI) : Prop := P.underlying p.1 = some (.map p.2.key p.2.elem) ∧ (P.info? p.2.elem).map (·.zero) = some (some p.2.zero)
/-- A type of keys: a struct or an array of integers, texts, booleans. -/
def okKey (P : Program) (p : Nat × List CK) : Prop := flatTy P 8 p.1 = some p.2 ∧ aggTy P p.1 = true
structure Tbl.Ok (P : Program) (T : Tbl) : Prop where
  sls : ∀ p ∈ T.sls, okSl P p
  szs : ∀ p ∈ T.szs, okSz P p
  flds : ∀ p ∈ T.flds, okFld P p
  ints : ∀ p ∈ T.ints, P.underlying p.1 = some (.int p.2)
  strs : ∀ p ∈ T.strs, P.underlying p = some .string
  zeros : ∀ p ∈ T.zeros, okZero P p
  fszs : ∀ p ∈ T.fszs, okFsz P p
  eqs : ∀ p ∈ T.eqs, okEq P p
  ptrs : ∀ p ∈ T.ptrs, okPtr P p
  bools : ∀ p ∈ T.bools, P.underlying p = some .bool
  arrs : ∀ p ∈ T.arrs, okArr P p
  byts : ∀ p ∈ T.byts, okByt P p
  maps : ∀ p ∈ T.maps, okMap P p
  keys : ∀ p ∈ T.keys, okKey P p

/-- Equality of such structs. -/
def eqFl (ks : List CK) (us vs : List Value) : Option Bool := bif kmatch ks us && kmatch ks vs then some (veqs us vs) else none
theorem okEq_flat {P : Program} {t : Nat} {ks : List CK} (h : flatTy P 8 t = some ks ∧ aggTy P t = true) (hm : P.eqGuardType P.depth t = false) : okEq P (t, eqFl ks) := by
  intro us vs b hb X Y w
  simp only [eqFl] at hb
  cases hk : (kmatch ks us && kmatch ks vs) with
  | false => rw [hk] at hb; cases hb
  | true =>
    rw [hk] at hb
    simp only [cond_true, Option.some.injEq] at hb
    subst hb
    rw [Bool.and_eq_true] at hk
    have e := eq_flat 8 9992 t ks h.1 us vs w hk.1 hk.2
    rw [h.2] at e
    simp only [mkV, cond_true] at e
    constructor
    · rw [Sem.run_bind, run_eqGuard_agg _ _ _ _ _ _ _ hm, Result.andThen_ok, run_eql_struct, e]; rfl
    · rw [Sem.run_bind, run_eqGuard_agg _ _ _ _ _ _ _ hm, Result.andThen_ok, run_neq_struct, e]; rfl

/-! ### readings -/
def AV.bool? : AV → Option Bool | .lit (.bool b) => some b | _ => none
def AV.int? : AV → Option (IntKind × Int) | .lit (.int k n) => some (k, n) | _ => none
def AV.lit? : AV → Option Value | .lit v => some v | _ => none
def AV.num? (x : AV) : Option Int := match x with | .lit (.int _ n) => some n | _ => none
/-- A piece of a row's things. -/
def piece (items : List (List AV)) (ko len : Nat) : List (List AV) := bif Nat.beq ko 0 then items.take len else (items.drop ko).take len
def headLen : List (List AV) → Nat | it :: _ => it.length | [] => 0
def fits (items : List (List AV)) (sz ko len : Nat) : Bool := bif Nat.beq ko 0 then Nat.ble len items.length else (Nat.beq (headLen items) sz && Nat.ble (ko + len) items.length)
/-- The things of a slice, by the heap. -/
def AV.its? (H : Hp) : AV → Option (List (List AV))
  | .sl items => some items
  | .rw id sz ko len => match H id with
    | some (.row _ _ items) => bif fits items sz ko len then some (piece items ko len) else none
    | some (.frz _ items) => bif fits items sz ko len then some (piece items ko len) else none
    | _ => none
  | .lit v => bif isNilV v then some [] else none
  | _ => none
def AV.cells : AV → List AV
  | .agg cs => cs
  | .lit (.agg cs) => cs.toList.map .lit
  | a => [a]
def aint (op : BinOp) (k : IntKind) (a b : Int) : Option Value :=
  match op with
  | .add => some (.int k (k.wrap (a + b)))
  | .sub => some (.int k (k.wrap (a - b)))
  | .mul => some (.int k (k.wrap (a * b)))
  | .quo => if b = 0 then none else some (.int k (k.wrap (a.tdiv b)))
  | .rem => if b = 0 then none else some (.int k (a.tmod b))
  | .eql => some (.bool (a == b))
  | .neq => some (.bool (a != b))
  | .lss => some (.bool (decide (a < b)))
  | .leq => some (.bool (decide (a ≤ b)))
  | .gtr => some (.bool (decide (a > b)))
  | .geq => some (.bool (decide (a ≥ b)))
  | .and => some (.int k (k.wrap ((BitVec.ofInt k.bits a &&& BitVec.ofInt k.bits b).toNat)))
  | .or => some (.int k (k.wrap ((BitVec.ofInt k.bits a ||| BitVec.ofInt k.bits b).toNat)))
  | .xor => some (.int k (k.wrap ((BitVec.ofInt k.bits a ^^^ BitVec.ofInt k.bits b).toNat)))
  | .andNot => some (.int k (k.wrap ((BitVec.ofInt k.bits a &&& ~~~(BitVec.ofInt k.bits b)).toNat)))
  | _ => none
def ashift (op : BinOp) (k : IntKind) (a b : Int) : Option Value :=
  if b < 0 then none else match op with
  | .shl => some (.int k (k.wrap (a * 2 ^ (min b.toNat k.bits))))
  | .shr => some (.int k (a.fdiv (2 ^ (min b.toNat k.bits))))
  | _ => none
def astr (op : BinOp) (a b : ByteArray) : Option Value :=
  match op with
  | .add => if 9223372036854775807 < a.size + b.size then none else some (.string (a ++ b))
  | .eql => some (.bool (a.toList == b.toList))
  | .neq => some (.bool (!(a.toList == b.toList)))
  | .lss => some (.bool (Op.bytesLess a.toList b.toList))
  | .leq => some (.bool (Op.bytesLess a.toList b.toList || a.toList == b.toList))
  | .gtr => some (.bool (!(Op.bytesLess a.toList b.toList || a.toList == b.toList)))
  | .geq => some (.bool (!(Op.bytesLess a.toList b.toList)))
  | _ => none
def isShift : BinOp → Bool | .shl | .shr => true | _ => false
def abin (op : BinOp) (x y : Value) : Option Value :=
  match x, y with
  | .int k a, .int k' b => bif isShift op then ashift op k a b else bif decide (k = k') then aint op k a b else none
  | .string a, .string b => astr op a b
  | _, _ => none
def lits : List AV → Option (List Value)
  | [] => some []
  | .lit v :: r => match lits r with
    | some vs => some (v :: vs)
    | none => none
  | _ :: _ => none
def AV.aggc? : AV → Option (List Value)
  | .agg cs => lits cs
  | .lit (.agg cs) => some cs.toList
  | _ => none
def aeq (T : Tbl) (op : BinOp) (t : Nat) (us vs : List Value) : Option Value :=
  match lk? T.eqs t with
  | some f => match f us vs with
    | some b => match op with
      | .eql => some (.bool b)
      | .neq => some (.bool !b)
      | _ => none
    | none => none
  | none => none
/-- Is it an address, one of which is nil? -/
def ptrEq : AV → AV → Option Bool
  | .ptr _ _, .lit (.pointer none) => some false
  | .el _ _ _ _, .lit (.pointer none) => some false
  | .ref _, .lit (.pointer none) => some false
  | .lit (.pointer none), .ptr _ _ => some false
  | .lit (.pointer none), .lit (.pointer none) => some true
  | _, _ => none
def boolEq : AV → AV → Option Bool
  | .lit (.bool a), .lit (.bool b) => some (a == b)
  | _, _ => none
def aptr (T : Tbl) (op : BinOp) (t : Nat) (x y : AV) : Option Value :=
  match (bif T.ptrs.elem t then ptrEq x y else bif T.bools.elem t then boolEq x y else none) with
  | some b => match op with
    | .eql => some (.bool b)
    | .neq => some (.bool !b)
    | _ => none
  | none => none
def binv (T : Tbl) (op : BinOp) (t : Nat) (x y : AV) : Option Value :=
  match x.lit?, y.lit? with
  | some u, some v => match abin op u v with
    | some r => some r
    | none => match x.aggc?, y.aggc? with
      | some us, some vs => aeq T op t us vs
      | _, _ => aptr T op t x y
  | _, _ => match x.aggc?, y.aggc? with
    | some us, some vs => aeq T op t us vs
    | _, _ => aptr T op t x y
theorem abin_run {P : Program} {op : BinOp} {t : TypeId} {x y v : Value} (h : abin op x y = some v) (X Y : Operand) (w : World) : ((do eqGuard op t X Y x y; binOp op t x y) : Sem Value).run P w = .ok v w := by
  unfold abin at h
  split at h
  · rename_i k a k' b
    rw [eqGuard_at_int]
    cases hs : isShift op with
    | true =>
      rw [hs] at h
      simp only [cond_true, ashift] at h
      split at h
      · cases h
      · rename_i hb
        cases op <;> first | cases hs | skip
        all_goals
          simp only [Option.some.injEq] at h
          subst h
          simp [binOp, Op.shift, hb]
    | false =>
      rw [hs] at h
      simp only [cond_false] at h
      by_cases hk : k = k'
      · subst hk
        simp only [decide_true, cond_true] at h
        cases op <;> first | cases hs | skip
        all_goals
          simp only [aint] at h
          first
            | (cases h; done)
            | (split at h
               · cases h
               · rename_i hb
                 simp only [Option.some.injEq] at h
                 subst h
                 simp [binOp, Op.intDiv, hb])
            | (simp only [Option.some.injEq] at h
               subst h
               simp [binOp, Op.intArith, Op.intCmp, Op.intBits])
      · simp [hk] at h
  · rename_i a b
    rw [eqGuard_at_string]
    cases op <;> simp only [astr] at h <;> first
      | (cases h; done)
      | (split at h
         · cases h
         · rename_i hb
           simp only [Option.some.injEq] at h
           subst h
           exact run_string_add_sum w a b (by omega))
      | (simp only [Option.some.injEq] at h
         subst h
         simp [binOp, Op.stringOp])
  · cases h
def aun (op : UnOp) (x : Value) : Option Value :=
  match op, x with
  | .neg, .int k n => some (.int k (k.wrap (0 - n)))
  | .xor, .int k n => some (.int k (k.wrap ((BitVec.ofInt k.bits (if k.signed then -1 else k.max) ^^^ BitVec.ofInt k.bits n).toNat)))
  | .not, .bool b => some (.bool !b)
  | _, _ => none
theorem aun_run {P : Program} {op : UnOp} {x v : Value} (h : aun op x = some v) (w : World) : (Op.unary op x).run P w = .ok v w := by
  unfold aun at h
  split at h <;> first | (cases h; done) | (simp only [Option.some.injEq] at h; subst h; simp [Op.unary, Op.intArith, Op.intBits])

/-! ### reading what a state says -/
def AS.eval (s : AS) : Operand → AV
  | .tmp t => s.get t
  | .const v => .lit v
  | .global g => .lit (.pointer (some ⟨g, 0, none⟩))
  | .func f => .fn f []
section
variable {P : Program} {T : Tbl} {N : Nat} {F : Nat → Nat → Prop} {w0 w w' : World} {gb0 gb gb' : Gb} {H0 H H' : Hp} {s : AS} {a : Act} {n n' : Nat} {W : Nat → Nat → Prop}
theorem Good.eval (g : Good P N F w0 gb0 H0 s a w gb) (x : Operand) : Rep w (Wr F gb s.heap) gb (s.eval x) (a.eval x) := by
  cases x with
  | tmp t => exact g.slots t
  | const v => exact Rep.lit v
  | global n => exact Rep.lit _
  | func f => exact Rep.fn f [] [] rfl (fun j c u hc _ => by simp at hc)
theorem rep_lit {v u : Value} (h : Rep w W gb (.lit v) u) : u = v := by cases h; rfl
theorem rep_bool {x : AV} {v : Value} {b : Bool} (h : Rep w W gb x v) (hb : x.bool? = some b) : v = .bool b := by
  unfold AV.bool? at hb
  split at hb
  · simp only [Option.some.injEq] at hb; subst hb; exact rep_lit h
  · cases hb
theorem rep_int {x : AV} {v : Value} {k : IntKind} {n : Int} (h : Rep w W gb x v) (hb : x.int? = some (k, n)) : v = .int k n := by
  unfold AV.int? at hb
  split at hb
  · simp only [Option.some.injEq, Prod.mk.injEq] at hb; obtain ⟨rfl, rfl⟩ := hb; exact rep_lit h
  · cases hb
theorem rep_lit? {x : AV} {v u : Value} (h : Rep w W gb x v) (hb : x.lit? = some u) : v = u := by
  unfold AV.lit? at hb
  split at hb
  · simp only [Option.some.injEq] at hb; subst hb; exact rep_lit h
  · cases hb
theorem rep_num {x : AV} {v : Value} {n : Int} (h : Rep w W gb x v) (hb : x.num? = some n) : ∃ k, v = .int k n := by
  unfold AV.num? at hb
  split at hb
  · rename_i k m
    simp only [Option.some.injEq] at hb; subst hb; exact ⟨k, rep_lit h⟩
  · cases hb
theorem rep_lits {cs : List AV} {us vs : List Value} (hl : cs.length = us.length) (h : ∀ (j : Nat) (c : AV) (u : Value), cs[j]? = some c → us[j]? = some u → Rep w W gb c u) (hv : lits cs = some vs) : us = vs := by
  induction cs generalizing us vs with
  | nil =>
    simp only [lits, Option.some.injEq] at hv
    subst hv
    exact List.eq_nil_of_length_eq_zero hl.symm
  | cons c cs ih =>
    cases us with
    | nil => simp at hl
    | cons u us =>
      cases c with
      | lit v =>
        simp only [lits] at hv
        split at hv
        · rename_i vs' hvs
          simp only [Option.some.injEq] at hv
          subst hv
          have h0 := h 0 (.lit v) u rfl rfl
          rw [rep_lit h0, ih (by simpa using hl) (fun j c u hc hu => h (j + 1) c u hc hu) hvs]
        · cases hv
      | _ => simp [lits] at hv
theorem rep_aggc {x : AV} {v : Value} {us : List Value} (h : Rep w W gb x v) (hb : x.aggc? = some us) : v = .agg us.toArray := by
  unfold AV.aggc? at hb
  split at hb
  · cases h with
    | agg _ vs hl h1 hr => rw [rep_lits hl hr hb]
  · simp only [Option.some.injEq] at hb
    subst hb
    rw [rep_lit h]
  · cases hb
theorem aeq_run {op : BinOp} {t : Nat} {us vs : List Value} {r : Value} (hT : T.Ok P) (h : aeq T op t us vs = some r) (X Y : Operand) (w : World) : ((do eqGuard op t X Y (.agg us.toArray) (.agg vs.toArray); binOp op t (.agg us.toArray) (.agg vs.toArray)) : Sem Value).run P w = .ok r w := by
  unfold aeq at h
  split at h
  · rename_i f hf
    split at h
    · rename_i b hb
      have := hT.eqs _ (lk?_mem hf) us vs b hb X Y w
      split at h
      · simp only [Option.some.injEq] at h; subst h; exact this.1
      · simp only [Option.some.injEq] at h; subst h; exact this.2
      · cases h
    · cases h
  · cases h
theorem run_eqPN (d : Nat) {t e : TypeId} (a : Option Addr) (h : P.underlying t = some (.pointer e)) (w : World) : (Op.equalIn (d + 1) t (.pointer a) (.pointer none)).run P w = .ok a.isNone w := by
  cases a <;> simp [Op.equalIn, run_underlying h]
theorem run_eqNP (d : Nat) {t e : TypeId} (a : Option Addr) (h : P.underlying t = some (.pointer e)) (w : World) : (Op.equalIn (d + 1) t (.pointer none) (.pointer a)).run P w = .ok a.isNone w := by
  cases a <;> simp [Op.equalIn, run_underlying h]
theorem run_ptrEq {t : Nat} {x y : AV} {u v : Value} {b : Bool} (ht : (P.underlying t).map isPtrD = some true) (hx : Rep w W gb x u) (hy : Rep w W gb y v) (h : ptrEq x y = some b) : ∃ p q, u = .pointer p ∧ v = .pointer q ∧ (Op.equal t u v).run P w = .ok b w := by
  obtain ⟨D, hD, hp⟩ := Option.map_eq_some_iff.1 ht
  cases D with
  | pointer e =>
    unfold ptrEq at h
    split at h
    · simp only [Option.some.injEq] at h; subst h
      cases hx with
      | ptr id off g size hg => cases hy; exact ⟨_, _, rfl, rfl, run_eqPN 9999 _ hD w⟩
    · simp only [Option.some.injEq] at h; subst h
      cases hx with
      | el id sz k off g size hg => cases hy; exact ⟨_, _, rfl, rfl, run_eqPN 9999 _ hD w⟩
    · simp only [Option.some.injEq] at h; subst h
      cases hx with
      | ref cs b off val _ _ _ _ => cases hy; exact ⟨_, _, rfl, rfl, run_eqPN 9999 _ hD w⟩
    · simp only [Option.some.injEq] at h; subst h
      cases hy with
      | ptr id off g size hg => cases hx; exact ⟨_, _, rfl, rfl, run_eqNP 9999 _ hD w⟩
    · simp only [Option.some.injEq] at h; subst h
      cases hx; cases hy
      exact ⟨_, _, rfl, rfl, run_eqPN 9999 _ hD w⟩
    · cases h
  | _ => cases hp
theorem aptr_run {op : BinOp} {t : Nat} {x y : AV} {u v r : Value} (hT : T.Ok P) (hx : Rep w W gb x u) (hy : Rep w W gb y v) (h : aptr T op t x y = some r) (X Y : Operand) : ((do eqGuard op t X Y u v; binOp op t u v) : Sem Value).run P w = .ok r w := by
  unfold aptr at h
  split at h
  · rename_i b hb
    cases h1 : T.ptrs.elem t with
    | true =>
      rw [h1] at hb
      obtain ⟨p, q, rfl, rfl, hr⟩ := run_ptrEq (hT.ptrs t (List.elem_iff.1 h1)) hx hy hb
      rw [eqGuard_at_pointer]
      split at h
      · simp only [Option.some.injEq] at h; subst h
        simp [binOp, hr]
      · simp only [Option.some.injEq] at h; subst h
        simp [binOp, hr]
      · cases h
    | false =>
      rw [h1] at hb
      simp only [cond_false] at hb
      cases h2 : T.bools.elem t with
      | true =>
        rw [h2] at hb
        simp only [cond_true] at hb
        unfold boolEq at hb
        split at hb
        · simp only [Option.some.injEq] at hb; subst hb
          cases hx; cases hy
          have hr := run_equal_bool (P := P) (w := w) t
          rw [eqGuard_at_bool]
          split at h
          · simp only [Option.some.injEq] at h; subst h
            simp [binOp, hr _ _ (hT.bools t (List.elem_iff.1 h2))]
          · simp only [Option.some.injEq] at h; subst h
            simp [binOp, hr _ _ (hT.bools t (List.elem_iff.1 h2))]
          · cases h
        · cases hb
      | false => rw [h2] at hb; cases hb
  · cases h
theorem binv_run {op : BinOp} {t : Nat} {x y : AV} {u v r : Value} (hT : T.Ok P) (hx : Rep w W gb x u) (hy : Rep w W gb y v) (h : binv T op t x y = some r) (X Y : Operand) : ((do eqGuard op t X Y u v; binOp op t u v) : Sem Value).run P w = .ok r w := by
  have ag : (match x.aggc?, y.aggc? with
      | some us, some vs => aeq T op t us vs
      | _, _ => aptr T op t x y) = some r → ((do eqGuard op t X Y u v; binOp op t u v) : Sem Value).run P w = .ok r w := by
    intro h
    split at h
    · rename_i us vs hu hv
      rw [rep_aggc hx hu, rep_aggc hy hv]
      exact aeq_run hT h X Y w
    · exact aptr_run hT hx hy h X Y
  unfold binv at h
  split at h
  · rename_i u' v' hu hv
    split at h
    · rename_i r' hr
      simp only [Option.some.injEq] at h
      subst h
      rw [rep_lit? hx hu, rep_lit? hy hv]
      exact abin_run hr X Y w
    · exact ag h
  · exact ag h
end
end Go.Proofs.Ytheanmfdfoefoaa.Hv
