/- Abstract values: one operation of a frame. Plain: over any program. -/
import Derived.Test.YtpemfmlonamikaaAvOp
namespace Go.Proofs.Ytpemfmlonamikaa.Av
open Go Go.RowKit

def AV.isOne : AV → Bool
  | .lit v => v.oneCell'
  | .sl _ | .ref _ => true
  | _ => false
def AS.newBox (s : AS) (d : Nat) (cs : List AV) : AS := ⟨(d, .ptr d 0) :: (s.unptr d).env, (d, cs) :: s.box⟩
def AS.setb (s : AS) (id : Nat) (cs : List AV) : AS := ⟨s.env, (id, cs) :: s.box⟩
def setR (l : List AV) (off : Nat) (cs : List AV) : List AV := l.take off ++ cs ++ l.drop (off + cs.length)
def abuild (pl : List (Nat × Nat)) (ρ : Operand → AV) : List (Nat × Operand) → List AV → Option (List AV)
  | [], cs => some cs
  | (i, x) :: r, cs => match pl[i]? with
    | some (off, size) => if ((ρ x).view.cells.length = size ∧ off + size ≤ cs.length) ∧ (ρ x).view.cells.all AV.isOne = true then abuild pl ρ r (setR cs off (ρ x).view.cells) else none
    | none => none
def szN : Option Nat → Nat | none => 1 | some n => n
def bsItems (ρ : Operand → AV) (parts : List (Nat × Operand)) : List (List AV) := parts.map fun p => (ρ p.2).view.cells
/-- A function's answer, whatever the world, whatever is shut. -/
def okF (P : Program) (f : FuncId) : Bool := match P.funcs[f]? with | some fn => !(fn.name == "runtime.NumGoroutine") && fn.body.isSome | none => false
def ACalls (P : Program) (f : FuncId) (as : List AV) (res : AV) : Prop :=
  okF P f = true ∧ ∀ (w : World) (F : Nat → Nat → Prop) (vs : List Value), (∀ b o, F b o → b < w.heap.size) → as.length = vs.length → (∀ (j : Nat) (x : AV) (v : Value), as[j]? = some x → vs[j]? = some v → Rep w F x v) →
    Calls P f vs.toArray w fun e w' => ∃ v, e = .returned v ∧ Rep w' F res v ∧ Below w.heap.size w w'
def apick (b : Bool) (x y : AV) : AV :=
  match x, y with
  | .lit (.bool p), .lit (.bool q) => .lit (.bool (bif b then p else q))
  | x, y => bif b then x else y
def isNilO : Operand → Bool | .const v => isNilV v | _ => false
def AS.read (s : AS) (x : AV) : Option (List AV) := match x with
  | .ref cs => some cs
  | .ptr id off => (s.getb id).map (·.drop off)
  | _ => none
def Tbl.fld (T : Tbl) (t f : Nat) : Option Nat := (lk? T.flds t).bind fun l => lk? l f
def alen (T : Tbl) (t : Nat) (x : AV) : Option Int := match x with
  | .lit (.string s) => bif T.strs.elem t then some (s.size : Int) else none
  | x => (lk? T.sls t).bind fun _ => x.its?.map fun l => (l.length : Int)
def AV.num? (x : AV) : Option Int := match x with | .lit (.int _ n) => some n | _ => none
def onum (d : Int) : Option AV → Option Int | none => some d | some x => x.num?
def acutS (s : ByteArray) (l h : Int) : Option AV := if 0 ≤ l ∧ l ≤ h ∧ h ≤ s.size then some (.lit (.string (s.extract l.toNat h.toNat))) else none
def acutL (I : SlI) (items : List (List AV)) (l h : Int) : Option AV := if (0 ≤ l ∧ l ≤ h ∧ h ≤ items.length) ∧ ∀ it ∈ items, it.length = I.size then some (.sl ((items.take h.toNat).drop l.toNat)) else none
def acut (T : Tbl) (t : Nat) (x : AV) (lo hi : Option AV) : Option AV :=
  match x with
  | .lit (.string s) => bif T.strs.elem t then (onum 0 lo).bind fun l => (onum s.size hi).bind fun h => acutS s l h else none
  | x => (lk? T.sls t).bind fun I => x.its?.bind fun items => (onum 0 lo).bind fun l => (onum items.length hi).bind fun h => acutL I items l h
/-- An operation's value, where it only reads. -/
def aval (P : Program) (T : Tbl) (op : Op) (ρ : Operand → AV) (rd : AV → Option (List AV)) (K : AV → Prop) : Prop :=
  match op with
  | .move x => K (ρ x)
  | .assign x => K (ρ x)
  | .pick c x y => ox (ρ c).bool? fun b => K (apick b (ρ x) (ρ y))
  | .binOp op t x y _ => ox (binv T op t (ρ x) (ρ y)) fun r => K (.lit r)
  | .unOp op _ x => ox (ρ x).lit? fun u => ox (aun op u) fun r => K (.lit r)
  | .load t x => ox (lk? T.szs t) fun z => ox (rd (ρ x)) fun cs => match z with
    | none => ox cs.head? fun c => K c
    | some n => n ≤ cs.length ∧ K (.agg (cs.take n))
  | .fieldAddr t x f => ox (T.fld t f) fun off => match ρ x with
    | .ref cs => K (.ref (cs.drop off))
    | .ptr id k => K (.ptr id (k + off))
    | _ => False
  | .indexAddr t x i => ox (lk? T.sls t) fun I => ox (ρ x).its? fun items => ox (ρ i).int? fun n => 0 ≤ n.2 ∧ ox items[n.2.toNat]? fun it => it.length = I.size ∧ K (.ref it)
  | .build t parts => ox (lk? T.zeros t) fun z => ox (lk? T.fszs t) fun pl => (z.cells.toList.map AV.lit).all AV.isOne = true ∧ ox (abuild pl ρ parts.toList (z.cells.toList.map .lit)) fun cs => K (.agg cs)
  | .extract x i => match ρ x with
    | .tup cs => ox cs[i]? fun c => K c
    | _ => False
  | .slice t x lo hi none => ox (acut T t (ρ x) (lo.map ρ) (hi.map ρ)) fun r => K r
  | .convert t0 t x => ox (lk? T.ints t0) fun _ => ox (lk? T.ints t) fun k => ox (ρ x).int? fun n => K (.lit (.int k (k.wrap n.2)))
  | .call c => match c.callee, c.args.toList with
    | .builtin .len, [x] => ox (c.argTypes[0]?) fun t => ox (alen T t (ρ x)) fun n => K (.lit (.int .i64 n))
    | .builtin .min, [x, y] => ox (ρ x).int? fun m => ox (ρ y).int? fun n => K (.lit (.int m.1 (if n.2 < m.2 then n.2 else m.2)))
    | .builtin .max, [x, y] => ox (ρ x).int? fun m => ox (ρ y).int? fun n => K (.lit (.int m.1 (if n.2 > m.2 then n.2 else m.2)))
    | .value (.func f), args => ∃ res, ACalls P f (args.map fun x => (ρ x).view) res ∧ (∀ x ∈ args, (ρ x).view.pure = true) ∧ K res
    | _, _ => False
  | _ => False
def isApp : Call → Bool | ⟨.builtin .append, _, _⟩ => true | _ => false
def asem (P : Program) (T : Tbl) (o : Oper) (s : AS) (K : AS → Prop) : Prop :=
  match o.op with
  | .assign x => match o.dst, (bif isNilO x then lk? T.sls o.type else none) with
    | some d, some i => K ((s.deown d).set d (.own d i.e []))
    | d, _ => K (s.put d (s.eval x))
  | .box _ x => match o.dst with
    | some d => (s.eval x).view.cells.all AV.isOne = true ∧ K (s.newBox d (s.eval x).view.cells)
    | none => False
  | .alloc e => match o.dst with
    | some d => ox (lk? T.zeros e) fun z => (z.cells.toList.map AV.lit).all AV.isOne = true ∧ K (s.newBox d (z.cells.toList.map .lit))
    | none => False
  | .store t p x => match s.eval p with
    | .ptr id off => ox (lk? T.szs t) fun z => ox (s.getb id) fun bs => ((s.eval x).view.cells.all AV.isOne = true ∧ (s.eval x).view.cells.length = szN z ∧ off + szN z ≤ bs.length) ∧ K ((s.setb id (setR bs off (s.eval x).view.cells)).put o.dst .dead)
    | _ => False
  | .buildSlice t n parts => match o.dst with
    | some d => ox (lk? T.sls t) fun I => (parts.toList.map (·.1) = List.range n ∧ n * I.size ≤ 16777216 ∧ ∀ it ∈ bsItems s.eval parts.toList, it.length = I.size ∧ it.all AV.isOne = true) ∧ K ((s.deown d).set d (.own d I.e (bsItems s.eval parts.toList)))
    | none => False
  | .call c => bif isApp c then (match c.args.toList with
      | [x, y] => match s.eval x with
        | .own id e items => ox ((c.argTypes[0]?).bind (lk? T.sls)) fun I => ox ((c.argTypes[1]?).bind (lk? T.sls)) fun _ => c.argTypes.size = 2 ∧ ox (s.eval y).its? fun news => I.e = e ∧ (∀ it ∈ news, it.length = I.size) ∧ (items.length + news.length) * I.bytes ≤ 140737488355328 ∧ K ((s.deown id).put o.dst (.own id e (items ++ news)))
        | _ => False
      | _ => False)
    else aval P T (.call c) s.eval s.read fun v => K (s.put o.dst v)
  | op => aval P T op s.eval s.read fun v => K (s.put o.dst v)

section
variable {P : Program} {T : Tbl} {N : Nat} {F : Nat → Nat → Prop} {w0 w w' : World} {s : AS} {a : Act} {tok : Tok} {bx : Bx} {o : Oper} {K : AS → Prop} {Kc : Act → World → Prop} {Q : Exit → Act → World → Prop}
theorem rep_pick {b : Bool} {x y : AV} {u v : Value} (hx : SlotRep P w F tok bx x u) (hy : SlotRep P w F tok bx y v) : SlotRep P w F tok bx (apick b x y) (if b then u else v) := by
  have key : SlotRep P w F tok bx (bif b then x else y) (if b then u else v) := by cases b <;> assumption
  unfold apick
  split
  · rename_i p q
    rw [rep_lit (show Rep w (Wr F tok bx) (.lit (.bool p)) u from hx), rep_lit (show Rep w (Wr F tok bx) (.lit (.bool q)) v from hy)]
    cases b <;> exact Rep.lit _
  · exact key
theorem s_move {x : Operand} (ho : o.op = .move x) (g : Good P N F w0 s a w tok bx) (hd : ∀ k, o.dst = some k → k < N) (h : K (s.put o.dst (s.eval x))) (hK : ∀ s' a' w', K s' → R P N F w0 s' a' w' → Kc a' w') : o.wp P a w Kc Q :=
  wp_val (v := a.eval x) (w' := w) (by unfold execOp; simp only [ho]; rfl) (hK _ _ _ h ⟨tok, bx, g.put hd (g.eval x)⟩)
theorem s_assign0 {x : Operand} (ho : o.op = .assign x) (g : Good P N F w0 s a w tok bx) (hd : ∀ k, o.dst = some k → k < N) (h : K (s.put o.dst (s.eval x))) (hK : ∀ s' a' w', K s' → R P N F w0 s' a' w' → Kc a' w') : o.wp P a w Kc Q :=
  wp_val (v := a.eval x) (w' := w) (by unfold execOp; simp only [ho]; rfl) (hK _ _ _ h ⟨tok, bx, g.put hd (g.eval x)⟩)
theorem rep_sl_nil {n c : Nat} {A : Option Addr} (hn : n = 0) (hc : c ≤ maxLen) : Rep w F (.sl []) (.slice A n c) := by
  subst hn
  exact Rep.sl [] 0 A c 0 0 (fun _ => undef) (by simp) (by simp) hc (by simp) (by simp) (by simp) (by simp) (by simp)
theorem not_own {d id : Nat} {e : TypeId} {items : List (List AV)} {x : AV} (h : x.deown d = .own id e items) : id ≠ d ∧ x = .own id e items := by
  cases x with
  | own i e' it =>
    have h' : (bif Nat.beq i d then AV.sl it else AV.own i e' it) = .own id e items := h
    cases hb : Nat.beq i d with
    | true => rw [hb] at h'; cases h'
    | false =>
      rw [hb] at h'
      injection h' with h1 h2 h3
      refine ⟨?_, by rw [h1, h2, h3]⟩
      rintro rfl
      subst h1
      simp at hb
  | _ => cases h
/-- The token of a number that no slot has any longer may be given anew. -/
theorem Good.retok {d : Nat} (g : Good P N F w0 (s.deown d) a w tok bx) (r : Option (Nat × Nat)) (hr : ∀ b u, r = some (b, u) → w0.heap.size ≤ b ∧ b < w.heap.size ∧ (∀ j u', j ≠ d → tok j ≠ some (b, u')) ∧ (∀ j, bx j ≠ some b) ∧ ∀ o v, w.cell? ⟨b, o, none⟩ = some v → u ≤ o → Wr F tok bx b o) :
    Good P N F w0 (s.deown d) a w (fun j => if j = d then r else tok j) bx := by
  have hk : ∀ b o u, ¬ Wr F tok bx b o → w.cell? ⟨b, o, none⟩ = some u → w.cell? ⟨b, o, none⟩ = some u ∧ ¬ Wr F (fun j => if j = d then r else tok j) bx b o := by
    intro b o u hn hc
    refine ⟨hc, ?_⟩
    rintro (h | ⟨j, u', hj, hle⟩ | ⟨j, hj⟩)
    · exact hn (.inl h)
    · replace hj : (if j = d then r else tok j) = some (b, u') := hj
      split at hj
      · exact hn ((hr b u' hj).2.2.2.2 o u hc hle)
      · exact hn (.inr (.inl ⟨j, u', hj, hle⟩))
    · exact hn (.inr (.inr ⟨j, hj⟩))
  refine { g with tokB := fun j b u hj => ?_, inj := fun i j b u u' hi hj => ?_, apart := fun i j b u hi => ?_, slots := fun t => ?_, boxes := fun id cs hcs => ?_ }
  · split at hj
    · have := hr b u hj; omega
    · exact g.tokB j b u hj
  · split at hi <;> split at hj
    · omega
    · exact absurd hj ((hr b u hi).2.2.1 j u' (by assumption))
    · exact absurd hi ((hr b u' hj).2.2.1 i u (by assumption))
    · exact g.inj i j b u u' hi hj
  · split at hi
    · exact (hr b u hi).2.2.2.1 j
    · exact g.apart i j b u hi
  · have hs := g.slots t
    refine hs.keep hk (fun id e items he => ?_) fun _ _ _ => rfl
    rw [AS.get_deown] at he
    have := (not_own he).1
    exact ⟨by simp [this], fun _ _ _ => rfl⟩
  · obtain ⟨b, cur, e, h1, h2, h3, h4, h5⟩ := g.boxes id cs hcs
    exact ⟨b, cur, e, h1, h2, h3, h4, fun j c u hc hu => (h5 j c u hc hu).keep hk⟩
theorem s_assign1 {x : Operand} {d : Nat} {i : SlI} (ho : o.op = .assign x) (hx : isNilO x = true) (hod : o.dst = some d) (g : Good P N F w0 s a w tok bx) (hd : ∀ k, o.dst = some k → k < N) (h : K ((s.deown d).set d (.own d i.e []))) (hK : ∀ s' a' w', K s' → R P N F w0 s' a' w' → Kc a' w') : o.wp P a w Kc Q := by
  have hv : a.eval x = .slice none 0 0 := by
    unfold isNilO at hx
    split at hx
    · rename_i v
      unfold isNilV at hx
      split at hx
      · rfl
      · cases hx
    · cases hx
  refine wp_val (v := .slice none 0 0) (w' := w) (by unfold execOp; simp only [ho, hv]; rfl) (hK _ _ _ h ⟨fun j => if j = d then none else tok j, bx, ?_⟩)
  have g1 := (g.deown d).retok none (fun b u hbu => by cases hbu)
  rw [hod]
  exact g1.put (d := some d) (fun k hk => hd k (by rw [hod]; exact hk)) ⟨rep_sl_nil rfl (by simp), by simp, .inl ⟨rfl, rfl, by simp⟩⟩
theorem s_pick {c x y : Operand} {b : Bool} (ho : o.op = .pick c x y) (hb : (s.eval c).bool? = some b) (g : Good P N F w0 s a w tok bx) (hd : ∀ k, o.dst = some k → k < N) (h : K (s.put o.dst (apick b (s.eval x) (s.eval y)))) (hK : ∀ s' a' w', K s' → R P N F w0 s' a' w' → Kc a' w') : o.wp P a w Kc Q := by
  have hc := rep_bool (g.eval c) hb
  exact wp_val (v := if b then a.eval x else a.eval y) (w' := w) (by unfold execOp; simp only [ho, hc, asBool]; rfl) (hK _ _ _ h ⟨tok, bx, g.put hd (rep_pick (g.eval x) (g.eval y))⟩)
theorem s_bin {op : BinOp} {t ty : TypeId} {x y : Operand} {r : Value} (ho : o.op = .binOp op t x y ty) (hT : T.Ok P) (hr : binv T op t (s.eval x) (s.eval y) = some r) (g : Good P N F w0 s a w tok bx) (hd : ∀ k, o.dst = some k → k < N) (h : K (s.put o.dst (.lit r))) (hK : ∀ s' a' w', K s' → R P N F w0 s' a' w' → Kc a' w') : o.wp P a w Kc Q := by
  have h3 := binv_run hT (g.eval x) (g.eval y) hr x y
  refine wp_val (v := r) (w' := w) ?_ (hK _ _ _ h ⟨tok, bx, g.put hd (Rep.lit r)⟩)
  unfold execOp
  simp only [ho]
  rw [Sem.run_bind, h3]
  rfl
theorem s_un {op : UnOp} {t : TypeId} {x : Operand} {u r : Value} (ho : o.op = .unOp op t x) (hx : (s.eval x).lit? = some u) (hr : aun op u = some r) (g : Good P N F w0 s a w tok bx) (hd : ∀ k, o.dst = some k → k < N) (h : K (s.put o.dst (.lit r))) (hK : ∀ s' a' w', K s' → R P N F w0 s' a' w' → Kc a' w') : o.wp P a w Kc Q := by
  have h1 := rep_lit? (g.eval x) hx
  refine wp_val (v := r) (w' := w) ?_ (hK _ _ _ h ⟨tok, bx, g.put hd (Rep.lit r)⟩)
  unfold execOp
  simp only [ho, h1]
  rw [Sem.run_bind, aun_run hr]
  rfl
theorem s_conv {t t' : TypeId} {x : Operand} {k : IntKind} {n : IntKind × Int} (ho : o.op = .convert t t' x) (hT : T.Ok P) {k0 : IntKind} (hk0 : lk? T.ints t = some k0) (hk : lk? T.ints t' = some k) (hx : (s.eval x).int? = some n) (g : Good P N F w0 s a w tok bx) (hd : ∀ k, o.dst = some k → k < N) (h : K (s.put o.dst (.lit (.int k (k.wrap n.2))))) (hK : ∀ s' a' w', K s' → R P N F w0 s' a' w' → Kc a' w') : o.wp P a w Kc Q := by
  obtain ⟨k', n⟩ := n
  have h1 := rep_int (g.eval x) hx
  have h2 := hT.ints _ (lk?_mem hk)
  have hd' := hT.ints _ (lk?_mem hk0)
  refine wp_val (v := .int k (k.wrap n)) (w' := w) ?_ (hK _ _ _ h ⟨tok, bx, g.put hd (Rep.lit _)⟩)
  unfold execOp
  simp only [ho, h1]
  simp [convert, run_underlying hd', run_underlying h2, Conv.intToInt]

/-! ### reading memory -/
theorem rep_read {x : AV} {v : Value} {cs : List AV} (g : Good P N F w0 s a w tok bx) (hx : SlotRep P w F tok bx x v) (h : s.read x = some cs) :
    ∃ b off, v = .pointer (some ⟨b, off, none⟩) ∧ ∃ val : Nat → Value, ∀ (j : Nat) (c : AV), cs[j]? = some c → w.cell? ⟨b, off + j, none⟩ = some (val j) ∧ (val j).oneCell' = true ∧ Rep w (Wr F tok bx) c (val j) := by
  unfold AS.read at h
  split at h
  · simp only [Option.some.injEq] at h
    subst h
    have hx' : Rep w (Wr F tok bx) (.ref _) v := hx
    cases hx' with
    | ref _ b off val hcell hF h1 hr => exact ⟨b, off, rfl, val, fun j c hc => ⟨hcell j c hc, h1 j c hc, hr j c hc⟩⟩
  · rename_i id off
    rw [Option.map_eq_some_iff] at h
    obtain ⟨bs, hbs, rfl⟩ := h
    obtain ⟨b, hb, rfl⟩ := hx
    obtain ⟨b', cur, e, h1, h2, h3, h4, h5⟩ := g.boxes id bs hbs
    rw [hb] at h1
    injection h1 with h1
    subst h1
    refine ⟨b, off, rfl, fun j => cur.toList.getD (off + j) undef, fun j c hc => ?_⟩
    rw [List.getElem?_drop] at hc
    have hlt := (List.getElem?_eq_some_iff.1 hc).1
    have hu : cur.toList[off + j]? = some (cur.toList.getD (off + j) undef) := by
      rw [List.getD_eq_getElem?_getD, List.getElem?_eq_getElem (by simpa [h3] using hlt)]; rfl
    have hcell := World.news_of_block h2 (off + j) _ hu
    rw [Addr.add_lit, Nat.zero_add] at hcell
    exact ⟨hcell, h4 _ (List.mem_of_getElem? hu), h5 _ c _ hc hu⟩
  · cases h
theorem run_isAgg_some {t : TypeId} {b : Bool} (h : (P.underlying t).map isAggD = some b) (w : World) : (isAgg t).run P w = .ok b w := by
  rw [Option.map_eq_some_iff] at h
  obtain ⟨d, hd, rfl⟩ := h
  unfold isAgg
  rw [Sem.run_bind, run_underlying hd]
  cases d <;> rfl
theorem run_size_some {t n : Nat} (h : (P.info? t).map (·.size) = some n) (w : World) : (sizeOf t).run P w = .ok n w := by
  rw [Option.map_eq_some_iff] at h
  obtain ⟨i, hi, rfl⟩ := h
  simp [sizeOf, typeInfo, hi]
theorem s_load1 {t : TypeId} {x : Operand} {cs : List AV} {c : AV} (ho : o.op = .load t x) (hT : T.Ok P) (hz : lk? T.szs t = some none) (hx : s.read (s.eval x) = some cs) (hc : cs.head? = some c) (g : Good P N F w0 s a w tok bx) (hd : ∀ k, o.dst = some k → k < N) (h : K (s.put o.dst c)) (hK : ∀ s' a' w', K s' → R P N F w0 s' a' w' → Kc a' w') : o.wp P a w Kc Q := by
  obtain ⟨b, off, hv, val, hval⟩ := rep_read g (g.eval x) hx
  obtain ⟨h1, h2⟩ := hT.szs _ (lk?_mem hz)
  obtain ⟨hc1, hc2, hc3⟩ := hval 0 c (by rw [← List.head?_eq_getElem?]; exact hc)
  refine wp_val (v := val 0) (w' := w) ?_ (hK _ _ _ h ⟨tok, bx, g.put hd (.of_rep hc3)⟩)
  unfold execOp
  simp only [ho, hv]
  rw [Nat.add_zero] at hc1
  simp only [Instr.loadAt, Instr.sureAddr, loadVar, Sem.run_bind, Sem.run_pure, Result.andThen_ok, run_isAgg_some h1, Bool.false_eq_true, if_false, run_load, hc1]
theorem s_loadn {t : TypeId} {x : Operand} {cs : List AV} {n : Nat} (ho : o.op = .load t x) (hT : T.Ok P) (hz : lk? T.szs t = some (some n)) (hx : s.read (s.eval x) = some cs) (hn : n ≤ cs.length) (g : Good P N F w0 s a w tok bx) (hd : ∀ k, o.dst = some k → k < N) (h : K (s.put o.dst (.agg (cs.take n)))) (hK : ∀ s' a' w', K s' → R P N F w0 s' a' w' → Kc a' w') : o.wp P a w Kc Q := by
  obtain ⟨b, off, hv, val, hval⟩ := rep_read g (g.eval x) hx
  obtain ⟨h1, h2⟩ := hT.szs _ (lk?_mem hz)
  have hlen : ((List.range n).map val).length = n := by simp
  have hat : ∀ (j : Nat) (u : Value), ((List.range n).map val)[j]? = some u → j < n ∧ u = val j := fun j u hu => by
    rw [List.getElem?_map, Option.map_eq_some_iff] at hu
    obtain ⟨k, hk, rfl⟩ := hu
    obtain ⟨hlt, e⟩ := List.getElem?_eq_some_iff.1 hk
    simp at hlt e
    subst e
    exact ⟨hlt, rfl⟩
  have hcell : (loadCells ⟨b, off, none⟩ n).run P w = .ok ((List.range n).map val).toArray w := by
    have := run_loadCells_list (P := P) (w := w) ⟨b, off, none⟩ ((List.range n).map val) (fun j u hu => by
      obtain ⟨hj, rfl⟩ := hat j u hu
      rw [Addr.add_lit]
      exact (hval j _ (List.getElem?_eq_getElem (by omega))).1)
    rwa [hlen] at this
  refine wp_val (v := .agg ((List.range n).map val).toArray) (w' := w) ?_ (hK _ _ _ h ⟨tok, bx, g.put hd (.of_rep (Rep.agg _ _ (by simp; omega) (fun u hu => ?_) (fun j c u hc hu => ?_)))⟩)
  · unfold execOp
    simp only [ho, hv]
    simp only [Instr.loadAt, Instr.sureAddr, loadVar, Sem.run_bind, Sem.run_pure, Result.andThen_ok, run_isAgg_some h1, if_true, run_size_some h2, hcell]
  · obtain ⟨j, hj⟩ := List.mem_iff_getElem?.1 hu
    obtain ⟨hjn, rfl⟩ := hat j u hj
    exact (hval j _ (List.getElem?_eq_getElem (by omega))).2.1
  · obtain ⟨hjn, rfl⟩ := hat j u hu
    rw [List.getElem?_take_of_lt hjn] at hc
    exact (hval j c hc).2.2
theorem run_fieldAt_some {t f off : Nat} {b k : Nat} (h : fldOf P t f = some (off, false)) (w : World) : (Instr.fieldAt t (.pointer (some ⟨b, k, none⟩)) f).run P w = .ok (.pointer (some ⟨b, k + off, none⟩)) w := by
  unfold fldOf at h
  split at h
  · rename_i fs hfs
    split at h
    · rename_i fd hfd
      split at h
      · rename_i j hj
        simp only [Option.some.injEq, Prod.mk.injEq] at h
        obtain ⟨rfl, h2⟩ := h
        have h0 : j.size ≠ 0 := fun e => by rw [e] at h2; cases h2
        simp [Instr.fieldAt, run_underlying hfs, hfd, Instr.sureAddr, fieldPlace, sizeOf, typeInfo, hj, h0, Addr.add_lit]
      · cases h
    · cases h
  · cases h
theorem fld_ok {t f off : Nat} (hT : T.Ok P) (h : T.fld t f = some off) : fldOf P t f = some (off, false) := by
  unfold Tbl.fld at h
  rw [Option.bind_eq_some_iff] at h
  obtain ⟨l, hl, h⟩ := h
  exact hT.flds _ (lk?_mem hl) _ (lk?_mem h)
theorem rep_drop {cs : List AV} {v : Value} {off : Nat} (h : Rep w F (.ref cs) v) : ∃ b k, v = .pointer (some ⟨b, k, none⟩) ∧ Rep w F (.ref (cs.drop off)) (.pointer (some ⟨b, k + off, none⟩)) := by
  cases h with
  | ref _ b k val hcell hF h1 hr =>
    refine ⟨b, k, rfl, Rep.ref _ b (k + off) (fun j => val (off + j)) (fun j x hx => ?_) (fun j x hx => ?_) (fun j x hx => ?_) (fun j x hx => ?_)⟩ <;> rw [List.getElem?_drop] at hx
    · rw [Nat.add_assoc]; exact hcell _ x hx
    · rw [Nat.add_assoc]; exact hF _ x hx
    · exact h1 _ x hx
    · exact hr _ x hx
theorem s_fld {t : TypeId} {x : Operand} {f off : Nat} {cs : List AV} (ho : o.op = .fieldAddr t x f) (hT : T.Ok P) (hf : T.fld t f = some off) (hx : s.eval x = .ref cs) (g : Good P N F w0 s a w tok bx) (hd : ∀ k, o.dst = some k → k < N) (h : K (s.put o.dst (.ref (cs.drop off)))) (hK : ∀ s' a' w', K s' → R P N F w0 s' a' w' → Kc a' w') : o.wp P a w Kc Q := by
  have he := g.eval x
  rw [hx] at he
  obtain ⟨b, k, hv, hr⟩ := rep_drop (off := off) (show Rep w (Wr F tok bx) (.ref cs) _ from he)
  refine wp_val (v := .pointer (some ⟨b, k + off, none⟩)) (w' := w) ?_ (hK _ _ _ h ⟨tok, bx, g.put hd (.of_rep hr)⟩)
  unfold execOp
  simp only [ho, hv]
  rw [Sem.run_bind, run_fieldAt_some (fld_ok hT hf)]
  rfl
theorem s_fldp {t : TypeId} {x : Operand} {f off id k : Nat} (ho : o.op = .fieldAddr t x f) (hT : T.Ok P) (hf : T.fld t f = some off) (hx : s.eval x = .ptr id k) (g : Good P N F w0 s a w tok bx) (hd : ∀ k, o.dst = some k → k < N) (h : K (s.put o.dst (.ptr id (k + off)))) (hK : ∀ s' a' w', K s' → R P N F w0 s' a' w' → Kc a' w') : o.wp P a w Kc Q := by
  have he := g.eval x
  rw [hx] at he
  obtain ⟨b, hb, hv⟩ := he
  refine wp_val (v := .pointer (some ⟨b, k + off, none⟩)) (w' := w) ?_ (hK _ _ _ h ⟨tok, bx, g.put hd ⟨b, hb, rfl⟩⟩)
  unfold execOp
  simp only [ho, hv]
  rw [Sem.run_bind, run_fieldAt_some (fld_ok hT hf)]
  rfl
theorem sls_ok {t : Nat} {I : SlI} (hT : T.Ok P) (h : lk? T.sls t = some I) : ElemT P t I.e I.zero I.size I.bytes := hT.sls _ (lk?_mem h)
theorem s_idx {t : TypeId} {x i : Operand} {I : SlI} {items : List (List AV)} {n : IntKind × Int} {it : List AV} (ho : o.op = .indexAddr t x i) (hT : T.Ok P) (hI : lk? T.sls t = some I) (hx : (s.eval x).its? = some items) (hi : (s.eval i).int? = some n) (hn : 0 ≤ n.2) (hit : items[n.2.toNat]? = some it) (hl : it.length = I.size)
    (g : Good P N F w0 s a w tok bx) (hd : ∀ k, o.dst = some k → k < N) (h : K (s.put o.dst (.ref it))) (hK : ∀ s' a' w', K s' → R P N F w0 s' a' w' → Kc a' w') : o.wp P a w Kc Q := by
  obtain ⟨k, n⟩ := n
  have h1 := rep_int (g.eval i) hi
  obtain ⟨b, off, c, hv, hr⟩ := rep_at (rep_its (g.eval x) hx) hit hl
  obtain ⟨hu, ⟨inf, hinf, hz, hsz, hby⟩, _, _, _⟩ := sls_ok hT hI
  have hlt := (List.getElem?_eq_some_iff.1 hit).1
  have hb : 0 ≤ n ∧ n < items.length := ⟨hn, by simp only at hn; omega⟩
  refine wp_val (v := .pointer (some ⟨b, off + n.toNat * I.size, none⟩)) (w' := w) ?_ (hK _ _ _ h ⟨tok, bx, g.put hd (.of_rep hr)⟩)
  unfold execOp
  simp only [ho, hv, h1]
  rw [Sem.run_bind]
  simp [Instr.indexAt, run_underlying hu, asIntOf, hb, sizeOf, typeInfo, hinf, hsz, Addr.add_lit]
theorem s_ext {x : Operand} {i : Nat} {cs : List AV} {c : AV} (ho : o.op = .extract x i) (hx : s.eval x = .tup cs) (hc : cs[i]? = some c) (g : Good P N F w0 s a w tok bx) (hd : ∀ k, o.dst = some k → k < N) (h : K (s.put o.dst c)) (hK : ∀ s' a' w', K s' → R P N F w0 s' a' w' → Kc a' w') : o.wp P a w Kc Q := by
  have he := g.eval x
  rw [hx] at he
  have he' : Rep w (Wr F tok bx) (.tup cs) (a.eval x) := he
  generalize hv : a.eval x = v at he'
  cases he' with
  | tup _ vs hl hr =>
    have hlt := (List.getElem?_eq_some_iff.1 hc).1
    have hu : vs[i]? = some vs[i] := List.getElem?_eq_getElem (by omega)
    refine wp_val (v := vs[i]) (w' := w) ?_ (hK _ _ _ h ⟨tok, bx, g.put hd (.of_rep (hr i c _ hc hu))⟩)
    unfold execOp
    simp only [ho, hv]
    rw [Sem.run_bind]
    simp [Instr.extract, hu]

/-! ### lengths, pieces -/
theorem s_len {c : Call} {x : Operand} {t : TypeId} {n : Int} (ho : o.op = .call c) (hc : c.callee = .builtin .len) (hx : c.args.toList = [x]) (ht : c.argTypes[0]? = some t) (hT : T.Ok P) (hn : alen T t (s.eval x) = some n) (g : Good P N F w0 s a w tok bx) (hd : ∀ k, o.dst = some k → k < N) (h : K (s.put o.dst (.lit (.int .i64 n)))) (hK : ∀ s' a' w', K s' → R P N F w0 s' a' w' → Kc a' w') : o.wp P a w Kc Q := by
  obtain ⟨callee, args, argTypes⟩ := c
  obtain rfl : args = #[x] := Array.toList_inj.1 hx
  simp only at hc ht
  subst hc
  refine wp_val (v := .int .i64 n) (w' := w) ?_ (hK _ _ _ h ⟨tok, bx, g.put hd (Rep.lit _)⟩)
  unfold execOp
  simp only [ho]
  have he := g.eval x
  unfold alen at hn
  split at hn
  · rename_i u hu
    rw [hu] at he
    have hv := rep_lit (show Rep w (Wr F tok bx) (.lit (.string u)) _ from he)
    cases hst : T.strs.elem t with
    | false => rw [hst] at hn; cases hn
    | true =>
      rw [hst] at hn
      simp only [cond_true, Option.some.injEq] at hn
      subst hn
      simp [resolve, invoke, builtin, hv, Builtin.len_, ht, run_underlying (hT.strs t (List.elem_iff.1 hst)), goInt]
  · rw [Option.bind_eq_some_iff] at hn
    obtain ⟨I, hI, hn⟩ := hn
    rw [Option.map_eq_some_iff] at hn
    obtain ⟨items, hit, rfl⟩ := hn
    have hr := rep_its he hit
    have hE := sls_ok hT hI
    generalize hv : a.eval x = v at hr
    cases hr with
    | sl _ sz A cc b off val =>
      simp [resolve, invoke, builtin, Builtin.len_, hv, ht, run_underlying hE.ht, goInt]
theorem s_min {c : Call} {x y : Operand} {m n : IntKind × Int} (ho : o.op = .call c) (hc : c.callee = .builtin .min) (hx : c.args.toList = [x, y]) (hm : (s.eval x).int? = some m) (hn : (s.eval y).int? = some n) (g : Good P N F w0 s a w tok bx) (hd : ∀ k, o.dst = some k → k < N) (h : K (s.put o.dst (.lit (.int m.1 (if n.2 < m.2 then n.2 else m.2))))) (hK : ∀ s' a' w', K s' → R P N F w0 s' a' w' → Kc a' w') : o.wp P a w Kc Q := by
  obtain ⟨callee, args, argTypes⟩ := c
  obtain rfl : args = #[x, y] := Array.toList_inj.1 hx
  simp only at hc
  subst hc
  refine wp_val (w' := w) ?_ (hK _ _ _ h ⟨tok, bx, g.put hd (Rep.lit _)⟩)
  unfold execOp
  simp [ho, resolve, invoke, builtin, rep_int (g.eval x) hm, rep_int (g.eval y) hn, Builtin.min_, Builtin.min2]
theorem s_max {c : Call} {x y : Operand} {m n : IntKind × Int} (ho : o.op = .call c) (hc : c.callee = .builtin .max) (hx : c.args.toList = [x, y]) (hm : (s.eval x).int? = some m) (hn : (s.eval y).int? = some n) (g : Good P N F w0 s a w tok bx) (hd : ∀ k, o.dst = some k → k < N) (h : K (s.put o.dst (.lit (.int m.1 (if n.2 > m.2 then n.2 else m.2))))) (hK : ∀ s' a' w', K s' → R P N F w0 s' a' w' → Kc a' w') : o.wp P a w Kc Q := by
  obtain ⟨callee, args, argTypes⟩ := c
  obtain rfl : args = #[x, y] := Array.toList_inj.1 hx
  simp only at hc
  subst hc
  refine wp_val (w' := w) ?_ (hK _ _ _ h ⟨tok, bx, g.put hd (Rep.lit _)⟩)
  unfold execOp
  simp [ho, resolve, invoke, builtin, rep_int (g.eval x) hm, rep_int (g.eval y) hn, Builtin.max_, Builtin.max2]
theorem flatten_cut {items : List (List AV)} {sz l h j : Nat} {x : AV} (hi : ∀ it ∈ items, it.length = sz) (hx : ((items.take h).drop l).flatten[j]? = some x) : items.flatten[l * sz + j]? = some x := by
  have hd : ∀ (its : List (List AV)) (l : Nat), (∀ it ∈ its, it.length = sz) → ((its.drop l).flatten)[j]? = some x → its.flatten[l * sz + j]? = some x := by
    intro its
    induction its with
    | nil => intro l _ h; simp at h
    | cons i its ih =>
      intro l hl h
      cases l with
      | zero => simpa using h
      | succ l =>
        have h0 := hl i (by simp)
        rw [List.flatten_cons, List.getElem?_append_right (by rw [h0, Nat.succ_mul]; omega), h0, show (l + 1) * sz + j - sz = l * sz + j from by rw [Nat.succ_mul]; omega]
        exact ih l (fun it hit => hl it (by simp [hit])) (by simpa using h)
  have h1 := hd (items.take h) l (fun it hit => hi it (List.mem_of_mem_take hit)) hx
  have h2 : items.flatten = (items.take h).flatten ++ (items.drop h).flatten := by rw [← List.flatten_append, List.take_append_drop]
  rw [h2, List.getElem?_append_left (List.getElem?_eq_some_iff.1 h1).1]
  exact h1
theorem rep_cut {items : List (List AV)} {v : Value} {sz l h : Nat} (hr : Rep w F (.sl items) v) (hlh : l ≤ h) (hh : h ≤ items.length) (hi : ∀ it ∈ items, it.length = sz) :
    ∃ A c, v = .slice A items.length c ∧ items.length ≤ c ∧ c ≤ maxLen ∧ Rep w F (.sl ((items.take h).drop l)) (.slice (if c = l then A else A.map (·.add (l * sz))) (h - l) (c - l)) := by
  cases hr with
  | sl _ sz' A c b off val hi' hc hm ha hcell hF h1 hr =>
    refine ⟨A, c, rfl, hc, hm, ?_⟩
    have hlen : ((items.take h).drop l).length = h - l := by simp; omega
    rw [← hlen]
    by_cases hne : items = []
    · have hz : (items.take h).drop l = [] := by simp [hne]
      rw [hz]
      exact rep_sl_nil rfl (by omega)
    · have hA := ha hne
      subst hA
      refine Rep.sl _ sz _ (c - l) b (off + l * sz) (fun j => val (l * sz + j)) (fun it hit => hi it (List.mem_of_mem_take (List.mem_of_mem_drop hit))) (by rw [hlen]; omega) (by omega) (fun hne' => ?_) (fun j x hx => ?_) (fun j x hx => ?_) (fun j x hx => h1 _ x (flatten_cut hi hx)) (fun j x hx => hr _ x (flatten_cut hi hx))
      · have : c ≠ l := by
          intro e
          apply hne'
          apply List.eq_nil_of_length_eq_zero
          omega
        rw [if_neg this]
        simp [Addr.add_lit]
      · rw [Nat.add_assoc]; exact hcell _ x (flatten_cut hi hx)
      · rw [Nat.add_assoc]; exact hF _ x (flatten_cut hi hx)
theorem rep_num {x : AV} {v : Value} {n : Int} (h : SlotRep P w F tok bx x v) (hb : x.num? = some n) : ∃ k, v = .int k n := by
  unfold AV.num? at hb
  split at hb
  · rename_i k m
    simp only [Option.some.injEq] at hb; subst hb; exact ⟨k, rep_lit h⟩
  · cases hb
theorem run_bounds {isS : Bool} {len cap : Nat} {lo hi : Option Operand} {l h : Int} (g : Good P N F w0 s a w tok bx) (hl : onum 0 (lo.map s.eval) = some l) (hh : onum len (hi.map s.eval) = some h) (b1 : 0 ≤ l) (b2 : l ≤ h) (b3 : h ≤ len) (b4 : len ≤ cap) :
    (Instr.sliceBounds isS len cap (lo.map a.eval) (hi.map a.eval) none).run P w = .ok (l.toNat, h.toNat, cap) w := by
  have hH : ∀ (k : IntKind) (cd : BoundsCode), (Instr.sliceBound (.int k h) cap cd).run P w = .ok h.toNat w := fun k cd => by
    have h1 : 0 ≤ h ∧ h ≤ (cap : Int) := by omega
    simp [Instr.sliceBound, asIntOf, h1]
  have hL : ∀ (k : IntKind) (cd : BoundsCode), (Instr.sliceBound (.int k l) h.toNat cd).run P w = .ok l.toNat w := fun k cd => by
    have h1 : 0 ≤ l ∧ l ≤ (h.toNat : Int) := by omega
    simp only [Instr.sliceBound, asIntOf, Sem.run_bind, Sem.run_pure, Result.andThen_ok, if_pos h1]
  cases lo with
  | none =>
    simp only [Option.map_none, onum, Option.some.injEq] at hl
    subst hl
    cases hi with
    | none =>
      simp only [Option.map_none, onum, Option.some.injEq] at hh
      subst hh
      simp [Instr.sliceBounds]
    | some y =>
      simp only [Option.map_some, onum] at hh
      obtain ⟨k, hv⟩ := rep_num (g.eval y) hh
      simp [Instr.sliceBounds, hv, hH]
  | some x =>
    simp only [Option.map_some, onum] at hl
    obtain ⟨k', hv'⟩ := rep_num (g.eval x) hl
    cases hi with
    | none =>
      simp only [Option.map_none, onum, Option.some.injEq] at hh
      subst hh
      simp only [Int.toNat_natCast] at hL
      simp [Instr.sliceBounds, hv', hL]
    | some y =>
      simp only [Option.map_some, onum] at hh
      obtain ⟨k, hv⟩ := rep_num (g.eval y) hh
      simp [Instr.sliceBounds, hv, hv', hH, hL]
theorem s_slice {t : TypeId} {x : Operand} {lo hi : Option Operand} {r : AV} (ho : o.op = .slice t x lo hi none) (hT : T.Ok P) (hr : acut T t (s.eval x) (lo.map s.eval) (hi.map s.eval) = some r) (g : Good P N F w0 s a w tok bx) (hd : ∀ k, o.dst = some k → k < N) (h : K (s.put o.dst r)) (hK : ∀ s' a' w', K s' → R P N F w0 s' a' w' → Kc a' w') : o.wp P a w Kc Q := by
  have he := g.eval x
  unfold acut at hr
  split at hr
  · rename_i u hu
    rw [hu] at he
    have hv := rep_lit (show Rep w (Wr F tok bx) (.lit (.string u)) _ from he)
    cases hst : T.strs.elem t with
    | false => rw [hst] at hr; cases hr
    | true =>
      rw [hst] at hr
      simp only [cond_true, Option.bind_eq_some_iff] at hr
      obtain ⟨l, hl, m, hm, hr⟩ := hr
      unfold acutS at hr
      split at hr
      · rename_i hb
        obtain ⟨b1, b2, b3⟩ := hb
        simp only [Option.some.injEq] at hr
        subst hr
        refine wp_val (v := .string (u.extract l.toNat m.toNat)) (w' := w) ?_ (hK _ _ _ h ⟨tok, bx, g.put hd (Rep.lit _)⟩)
        unfold execOp
        simp only [ho, hv, Instr.sliceAt, Sem.run_bind, run_underlying (hT.strs t (List.elem_iff.1 hst)), Result.andThen_ok, Instr.slice, Option.map_none, Option.isSome_none, Bool.false_eq_true, if_false, Sem.run_pure]
        rw [run_bounds g hl hm b1 b2 b3 (Nat.le_refl _)]
        rfl
      · cases hr
  · simp only [Option.bind_eq_some_iff] at hr
    obtain ⟨I, hI, items, hit, l, hl, m, hm, hr⟩ := hr
    unfold acutL at hr
    split at hr
    · rename_i hb
      obtain ⟨⟨b1, b2, b3⟩, hsz⟩ := hb
      simp only [Option.some.injEq] at hr
      subst hr
      obtain ⟨A, c, hv, hc1, hc2, hrep⟩ := rep_cut (l := l.toNat) (h := m.toNat) (rep_its he hit) (by omega) (by omega) hsz
      obtain ⟨hu, ⟨inf, hinf, hz, hsi, hby⟩, _, _, _⟩ := sls_ok hT hI
      refine wp_val (v := .slice (if c = l.toNat then A else A.map (·.add (l.toNat * I.size))) (m.toNat - l.toNat) (c - l.toNat)) (w' := w) ?_ (hK _ _ _ h ⟨tok, bx, g.put hd (.of_rep hrep)⟩)
      unfold execOp
      simp only [ho, hv, Instr.sliceAt, Sem.run_bind, run_underlying hu, Result.andThen_ok, Instr.slice, Option.map_none, Option.isSome_none, Bool.false_eq_true, if_false, Sem.run_pure]
      rw [run_bounds g hl hm b1 b2 b3 hc1]
      simp [sizeOf, typeInfo, hinf, hsi]
    · cases hr
end
end Go.Proofs.Ytpemfmlonamikaa.Av
