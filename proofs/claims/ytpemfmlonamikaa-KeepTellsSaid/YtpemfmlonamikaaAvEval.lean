/- Abstract values: the walk as an evaluation of data, for simp. Plain: over any program. -/
import Derived.Test.YtpemfmlonamikaaAvWp
namespace Go.Proofs.Ytpemfmlonamikaa.Av
open Go Go.RowKit

theorem beqE (a b : Nat) : Nat.beq a b = (a == b) := by rw [Bool.eq_iff_iff]; simp
theorem range0 : List.range 0 = [] := rfl
theorem range1 : List.range 1 = [0] := rfl
theorem range2 : List.range 2 = [0, 1] := rfl
theorem range3 : List.range 3 = [0, 1, 2] := rfl
theorem beq_tf : (true == false) = false := rfl
theorem beq_ft : (false == true) = false := rfl
def fval (T : Tbl) (op : Op) (s : AS) : Option AV :=
  match op with
  | .move x => some (s.eval x)
  | .pick c x y => match (s.eval c).bool? with
    | some b => some (apick b (s.eval x) (s.eval y))
    | none => none
  | .binOp op t x y _ => match binv T op t (s.eval x) (s.eval y) with
    | some r => some (.lit r)
    | none => none
  | .unOp op _ x => match (s.eval x).lit? with
    | some u => match aun op u with
      | some r => some (.lit r)
      | none => none
    | none => none
  | .load t x => match lk? T.szs t, s.read (s.eval x) with
    | some none, some (c :: _) => some c
    | some (some n), some cs => if n ≤ cs.length then some (.agg (cs.take n)) else none
    | _, _ => none
  | .fieldAddr t x f => match T.fld t f, s.eval x with
    | some off, .ref cs => some (.ref (cs.drop off))
    | some off, .ptr id k => some (.ptr id (k + off))
    | _, _ => none
  | .indexAddr t x i => match lk? T.sls t, (s.eval x).its?, (s.eval i).int? with
    | some I, some items, some (_, n) => match items[n.toNat]? with
      | some it => if 0 ≤ n ∧ it.length = I.size then some (.ref it) else none
      | none => none
    | _, _, _ => none
  | .build t parts => match lk? T.zeros t, lk? T.fszs t with
    | some z, some pl => if (z.cells.toList.map AV.lit).all AV.isOne = true then (match abuild pl s.eval parts.toList (z.cells.toList.map .lit) with
      | some cs => some (.agg cs)
      | none => none) else none
    | _, _ => none
  | .extract x i => match s.eval x with
    | .tup cs => cs[i]?
    | _ => none
  | .slice t x lo hi none => acut T t (s.eval x) (lo.map s.eval) (hi.map s.eval)
  | .convert t0 t x => match lk? T.ints t0, lk? T.ints t, (s.eval x).int? with
    | some _, some k, some (_, n) => some (.lit (.int k (k.wrap n)))
    | _, _, _ => none
  | .call c => match c.callee, c.args.toList, c.argTypes.toList with
    | .builtin .len, [x], t :: _ => match alen T t (s.eval x) with
      | some n => some (.lit (.int .i64 n))
      | none => none
    | .builtin .min, [x, y], _ => match (s.eval x).int?, (s.eval y).int? with
      | some (k, m), some (_, n) => some (.lit (.int k (if n < m then n else m)))
      | _, _ => none
    | .builtin .max, [x, y], _ => match (s.eval x).int?, (s.eval y).int? with
      | some (k, m), some (_, n) => some (.lit (.int k (if n > m then n else m)))
      | _, _ => none
    | _, _, _ => none
  | _ => none
def fapp (T : Tbl) (c : Call) (d : Option Nat) (s : AS) : Option AS :=
  match c.callee, c.args.toList, c.argTypes.toList with
  | .builtin .append, [x, y], [t, tx] => match s.eval x, lk? T.sls t, lk? T.sls tx, (s.eval y).its? with
    | .own id e items, some I, some _, some news => if (I.e = e ∧ ∀ it ∈ news, it.length = I.size) ∧ (items.length + news.length) * I.bytes ≤ 140737488355328 then some ((s.deown id).put d (.own id e (items ++ news))) else none
    | _, _, _, _ => none
  | _, _, _ => none
def fop (T : Tbl) (o : Oper) (s : AS) : Option AS :=
  match o.op with
  | .assign x => match o.dst, (bif isNilO x then lk? T.sls o.type else none) with
    | some d, some i => some ((s.deown d).set d (.own d i.e []))
    | d, _ => some (s.put d (s.eval x))
  | .box _ x => match o.dst with
    | some d => if (s.eval x).view.cells.all AV.isOne = true then some (s.newBox d (s.eval x).view.cells) else none
    | none => none
  | .alloc e => match o.dst, lk? T.zeros e with
    | some d, some z => if (z.cells.toList.map AV.lit).all AV.isOne = true then some (s.newBox d (z.cells.toList.map .lit)) else none
    | _, _ => none
  | .store t p x => match s.eval p, lk? T.szs t with
    | .ptr id off, some z => match s.getb id with
      | some bs => if (s.eval x).view.cells.all AV.isOne = true ∧ (s.eval x).view.cells.length = szN z ∧ off + szN z ≤ bs.length then some ((s.setb id (setR bs off (s.eval x).view.cells)).put o.dst .dead) else none
      | none => none
    | _, _ => none
  | .buildSlice t n parts => match o.dst, lk? T.sls t with
    | some d, some I => if parts.toList.map (·.1) = List.range n ∧ n * I.size ≤ 16777216 ∧ ∀ it ∈ bsItems s.eval parts.toList, it.length = I.size ∧ it.all AV.isOne = true then some ((s.deown d).set d (.own d I.e (bsItems s.eval parts.toList))) else none
    | _, _ => none
  | .call c => bif isApp c then fapp T c o.dst s else match fval T (.call c) s with
    | some v => some (s.put o.dst v)
    | none => none
  | op => match fval T op s with
    | some v => some (s.put o.dst v)
    | none => none
inductive KF where
  | sq (y : Code)
  | bl (id : Nat)
  | lp (J : AS → Prop)
section
variable (P : Program) (T : Tbl) (V : List Nat)
def rk (all : List Oper) : List Oper → AS → (AEx → AS → Prop) → Prop
  | [], s, Q => Q .nrm (s.keep V)
  | o :: r, s, Q => match gsem all s o with
    | some true => match fop T o s with
      | some s' => rk all r s' Q
      | none => match o.op with
        | .call c => match c.callee with
          | .value (.func f) => ∃ res, ACalls P f (c.args.toList.map fun x => (s.eval x).view) res ∧ (c.args.toList.map fun x => (s.eval x).view).all AV.pure = true ∧ rk all r (s.put o.dst res) Q
          | _ => False
        | _ => False
    | some false => rk all r (s.put o.dst .skip) Q
    | none => False
def cwp : Code → AS → (AEx → AS → Prop) → Prop
  | .skip, s, Q => Q .nrm s
  | .region _ ops _, s, Q => rk P T V ops.toList ops.toList s Q
  | .seq x y, s, Q => cwp x s (AEx.sq (fun s' => cwp y s' Q) Q)
  | .cond c x y, s, Q => match (s.eval c).bool? with
    | some true => cwp x s Q
    | some false => cwp y s Q
    | none => False
  | .block id c, s, Q => cwp c s (AEx.bl id Q)
  | .loop c, s, Q => ALoop (cwp c) s Q
  | .exit id, s, Q => Q (.ext id) s
  | .ret, s, Q => Q .ret s
  | .label _, s, Q => Q .nrm s
  | _, _, _ => False
def den (Q : AEx → AS → Prop) : List KF → AEx → AS → Prop
  | [] => Q
  | .sq y :: ks => AEx.sq (fun s' => cwp P T V y s' (den Q ks)) (den Q ks)
  | .bl id :: ks => AEx.bl id (den Q ks)
  | .lp J :: ks => AEx.sq J (den Q ks)
/-- A loop's goal. -/
def LoopK (c : Code) (s : AS) (Q : AEx → AS → Prop) : Prop := ALoop (cwp P T V c) s Q
/-- A call's goal. -/
def CallK (all : List Oper) (d : Option Nat) (f : FuncId) (args : List AV) (r : List Oper) (s : AS) (Q : AEx → AS → Prop) : Prop := ∃ res, ACalls P f args res ∧ args.all AV.pure = true ∧ rk P T V all r (s.put d res) Q
end
section
variable {P : Program} {T : Tbl} {V : List Nat} {Q : AEx → AS → Prop} {ks : List KF} {s : AS} {all r : List Oper} {o : Oper}
theorem rk_nil : rk P T V all [] s Q = Q .nrm (s.keep V) := rfl
/-- How an operation goes on: what it makes of the state, or a call. -/
def stepK (P : Program) (T : Tbl) (V : List Nat) (all : List Oper) (o : Oper) (r : List Oper) (s : AS) (Q : AEx → AS → Prop) : Option AS → Prop
  | some s' => rk P T V all r s' Q
  | none => match o.op with
    | .call c => match c.callee with
      | .value (.func f) => CallK P T V all o.dst f (c.args.toList.map fun x => (s.eval x).view) r s Q
      | _ => False
    | _ => False
theorem rk_cons : rk P T V all (o :: r) s Q = match gsem all s o with
    | some true => stepK P T V all o r s Q (fop T o s)
    | some false => rk P T V all r (s.put o.dst .skip) Q
    | none => False := by
  show (match gsem all s o with
    | some true => _
    | some false => _
    | none => False) = _
  split
  · unfold stepK
    cases fop T o s <;> rfl
  · rfl
  · rfl
theorem cwp_skip : cwp P T V .skip s Q = Q .nrm s := rfl
theorem cwp_region {id : Nat} {ops : Array Oper} {d : Bool} : cwp P T V (.region id ops d) s Q = rk P T V ops.toList ops.toList s Q := rfl
theorem cwp_seq {x y : Code} : cwp P T V (.seq x y) s (den P T V Q ks) = cwp P T V x s (den P T V Q (.sq y :: ks)) := rfl
theorem cwp_block {id : Nat} {c : Code} : cwp P T V (.block id c) s (den P T V Q ks) = cwp P T V c s (den P T V Q (.bl id :: ks)) := rfl
theorem cwp_cond {c : Operand} {x y : Code} : cwp P T V (.cond c x y) s Q = match (s.eval c).bool? with
    | some true => cwp P T V x s Q
    | some false => cwp P T V y s Q
    | none => False := rfl
theorem cwp_loop {c : Code} : cwp P T V (.loop c) s Q = LoopK P T V c s Q := rfl
theorem cwp_exit {id : Nat} : cwp P T V (.exit id) s Q = Q (.ext id) s := rfl
theorem cwp_ret : cwp P T V .ret s Q = Q .ret s := rfl
theorem cwp_label {l : Nat} : cwp P T V (.label l) s Q = Q .nrm s := rfl
theorem den_nil {e : AEx} : den P T V Q [] e s = Q e s := rfl
theorem den_sq_nrm {y : Code} : den P T V Q (.sq y :: ks) .nrm s = cwp P T V y s (den P T V Q ks) := rfl
theorem den_sq_ret {y : Code} : den P T V Q (.sq y :: ks) .ret s = den P T V Q ks .ret s := rfl
theorem den_sq_ext {y : Code} {i : Nat} : den P T V Q (.sq y :: ks) (.ext i) s = den P T V Q ks (.ext i) s := rfl
theorem den_bl_nrm {id : Nat} : den P T V Q (.bl id :: ks) .nrm s = den P T V Q ks .nrm s := rfl
theorem den_bl_ret {id : Nat} : den P T V Q (.bl id :: ks) .ret s = den P T V Q ks .ret s := rfl
theorem den_bl_ext {id i : Nat} : den P T V Q (.bl id :: ks) (.ext i) s = bif Nat.beq i id then den P T V Q ks .nrm s else den P T V Q ks (.ext i) s := rfl
theorem den_lp_nrm {J : AS → Prop} : den P T V Q (.lp J :: ks) .nrm s = J s := rfl
theorem den_lp_ret {J : AS → Prop} : den P T V Q (.lp J :: ks) .ret s = den P T V Q ks .ret s := rfl
theorem den_lp_ext {J : AS → Prop} {i : Nat} : den P T V Q (.lp J :: ks) (.ext i) s = den P T V Q ks (.ext i) s := rfl
theorem loopK {c : Code} (I : Nat → AS → Prop) (n : Nat) (L ids : List Nat) (h0 : I n (s.head ids L)) (h : ∀ n s', I n s' → cwp P T V c s' (den P T V Q (.lp (fun s'' => ∃ m ids, m < n ∧ I m (s''.head ids L)) :: ks))) : LoopK P T V c s (den P T V Q ks) :=
  ⟨I, L, ⟨n, ids, h0⟩, h⟩
theorem callK {d : Option Nat} {f : FuncId} {args : List AV} {res : AV} (h : ACalls P f args res) (k : rk P T V all r (s.put d res) Q) (hp : args.all AV.pure = true := by rfl) : CallK P T V all d f args r s Q := ⟨res, h, hp, k⟩
theorem getD0 {α : Type} {l : List α} {x : α} {c : List α} (h : l = x :: c) : l.head? = some x := by rw [h]; rfl
theorem fval_sound {op : Op} {v : AV} {K : AV → Prop} (h : fval T op s = some v) (hK : K v) : aval P T op s.eval s.read K := by
  unfold fval at h
  unfold aval
  split at h
  · simp only [Option.some.injEq] at h; subst h; exact hK
  · split at h
    · rename_i b hb
      simp only [Option.some.injEq] at h; subst h
      exact ox_iff.2 ⟨b, hb, hK⟩
    · cases h
  · split at h
    · rename_i r hr
      simp only [Option.some.injEq] at h; subst h
      exact ox_iff.2 ⟨r, hr, hK⟩
    · cases h
  · split at h
    · rename_i u hu
      split at h
      · rename_i r hr
        simp only [Option.some.injEq] at h; subst h
        exact ox_iff.2 ⟨u, hu, ox_iff.2 ⟨r, hr, hK⟩⟩
      · cases h
    · cases h
  · split at h
    · rename_i c cs hz hc
      simp only [Option.some.injEq] at h; subst h
      exact ox_iff.2 ⟨none, hz, ox_iff.2 ⟨_, hc, ox_iff.2 ⟨_, rfl, hK⟩⟩⟩
    · rename_i n cs hz hc
      split at h
      · rename_i hn
        simp only [Option.some.injEq] at h; subst h
        exact ox_iff.2 ⟨some n, hz, ox_iff.2 ⟨_, hc, hn, hK⟩⟩
      · cases h
    · cases h
  · split at h
    · rename_i off cs ho hx
      simp only [Option.some.injEq] at h; subst h
      exact ox_iff.2 ⟨off, ho, by simp only [hx]; exact hK⟩
    · rename_i off id k ho hx
      simp only [Option.some.injEq] at h; subst h
      exact ox_iff.2 ⟨off, ho, by simp only [hx]; exact hK⟩
    · cases h
  · split at h
    · rename_i I items k n hI hit hn
      split at h
      · rename_i it hi
        split at h
        · rename_i hb
          simp only [Option.some.injEq] at h; subst h
          exact ox_iff.2 ⟨I, hI, ox_iff.2 ⟨items, hit, ox_iff.2 ⟨_, hn, hb.1, ox_iff.2 ⟨it, hi, hb.2, hK⟩⟩⟩⟩
        · cases h
      · cases h
    · cases h
  · split at h
    · rename_i z pl hz hpl
      split at h
      · rename_i h1
        split at h
        · rename_i cs hcs
          simp only [Option.some.injEq] at h; subst h
          exact ox_iff.2 ⟨z, hz, ox_iff.2 ⟨pl, hpl, h1, ox_iff.2 ⟨cs, hcs, hK⟩⟩⟩
        · cases h
      · cases h
    · cases h
  · split at h
    · rename_i cs hx
      simp only [hx]
      exact ox_iff.2 ⟨v, h, hK⟩
    · cases h
  · exact ox_iff.2 ⟨v, h, hK⟩
  · split at h
    · rename_i k0 k k1 n h1 h2 h3
      simp only [Option.some.injEq] at h; subst h
      exact ox_iff.2 ⟨k0, h1, ox_iff.2 ⟨k, h2, ox_iff.2 ⟨_, h3, hK⟩⟩⟩
    · cases h
  · split at h
    · rename_i x t ts hc hx ht
      split at h
      · rename_i n hn
        simp only [Option.some.injEq] at h; subst h
        simp only [hc, hx]
        exact ox_iff.2 ⟨t, by rw [← Array.getElem?_toList, ht]; rfl, ox_iff.2 ⟨n, hn, hK⟩⟩
      · cases h
    · rename_i x y _ hc hx
      split at h
      · rename_i k m k' n hm hn
        simp only [Option.some.injEq] at h; subst h
        simp only [hc, hx]
        exact ox_iff.2 ⟨_, hm, ox_iff.2 ⟨_, hn, hK⟩⟩
      · cases h
    · rename_i x y _ hc hx
      split at h
      · rename_i k m k' n hm hn
        simp only [Option.some.injEq] at h; subst h
        simp only [hc, hx]
        exact ox_iff.2 ⟨_, hm, ox_iff.2 ⟨_, hn, hK⟩⟩
      · cases h
    · cases h
  · cases h
theorem fop_sound {s' : AS} {K : AS → Prop} (h : fop T o s = some s') (hK : K s') : asem P T o s K := by
  unfold fop at h
  unfold asem
  have rest : ∀ {op : Op}, (match fval T op s with | some v => some (s.put o.dst v) | none => none) = some s' → aval P T op s.eval s.read fun v => K (s.put o.dst v) := by
    intro op h
    split at h
    · rename_i v hv
      simp only [Option.some.injEq] at h; subst h
      exact fval_sound (K := fun v => K (s.put o.dst v)) hv hK
    · cases h
  cases hop : o.op with
  | assign x =>
    simp only [hop] at h ⊢
    cases hd : o.dst with
    | none =>
      simp only [hd] at h ⊢
      simp only [Option.some.injEq] at h; subst h
      exact hK
    | some d =>
      cases hi : (bif isNilO x then lk? T.sls o.type else none) with
      | none =>
        simp only [hd, hi] at h ⊢
        simp only [Option.some.injEq] at h; subst h
        exact hK
      | some i =>
        simp only [hd, hi] at h ⊢
        simp only [Option.some.injEq] at h; subst h
        exact hK
  | box e x =>
    simp only [hop] at h ⊢
    cases hd : o.dst with
    | none => simp only [hd] at h; cases h
    | some d =>
      simp only [hd] at h ⊢
      split at h
      · simp only [Option.some.injEq] at h; subst h
        exact ⟨by assumption, hK⟩
      · cases h
  | alloc e =>
    simp only [hop] at h ⊢
    cases hd : o.dst with
    | none => simp only [hd] at h; cases h
    | some d =>
      cases hz : lk? T.zeros e with
      | none => simp only [hd, hz] at h; cases h
      | some z =>
        simp only [hd, hz] at h ⊢
        split at h
        · simp only [Option.some.injEq] at h; subst h
          exact ⟨by assumption, hK⟩
        · cases h
  | store t p x =>
    simp only [hop] at h ⊢
    split at h
    · rename_i id off z hp hz
      simp only [hp]
      split at h
      · rename_i bs hbs
        split at h
        · simp only [Option.some.injEq] at h; subst h
          exact ox_iff.2 ⟨z, hz, ox_iff.2 ⟨bs, hbs, by assumption, hK⟩⟩
        · cases h
      · cases h
    · cases h
  | buildSlice t n parts =>
    simp only [hop] at h ⊢
    cases hd : o.dst with
    | none => simp only [hd] at h; cases h
    | some d =>
      cases hI : lk? T.sls t with
      | none => simp only [hd, hI] at h; cases h
      | some I =>
        simp only [hd, hI] at h ⊢
        split at h
        · simp only [Option.some.injEq] at h; subst h
          exact ⟨by assumption, hK⟩
        · cases h
  | call c =>
    simp only [hop] at h ⊢
    cases hc : isApp c with
    | false =>
      rw [hc] at h
      simp only [cond_false] at h ⊢
      exact rest h
    | true =>
      rw [hc] at h
      simp only [cond_true] at h ⊢
      unfold fapp at h
      split at h
      · rename_i x y t tx hcal hx ht
        simp only [hx]
        split at h
        · rename_i id e items I I' news hox hI hI' hn
          split at h
          · rename_i hb
            simp only [Option.some.injEq] at h; subst h
            simp only [hox]
            refine ox_iff.2 ⟨I, ?_, ox_iff.2 ⟨I', ?_, ?_, ox_iff.2 ⟨news, hn, hb.1.1, hb.1.2, hb.2, hK⟩⟩⟩
            · rw [← Array.getElem?_toList, ht]; exact hI
            · rw [← Array.getElem?_toList, ht]; exact hI'
            · rw [← Array.length_toList, ht]; rfl
          · cases h
        · cases h
      · cases h
  | _ => simp only [hop] at h ⊢; exact rest h
theorem rk_sound : ∀ (l : List Oper) {s : AS}, rk P T V all l s Q → aops P T all l s fun s' => Q .nrm (s'.keep V) := by
  intro l
  induction l with
  | nil => intro s h; exact h
  | cons o l ih =>
    intro s h
    rw [rk_cons] at h
    unfold aops
    split at h
    · rename_i hg
      simp only [hg]
      cases hf : fop T o s with
      | some s' =>
        rw [hf] at h
        exact fop_sound hf (ih h)
      | none =>
        rw [hf] at h
        unfold stepK at h
        simp only at h
        split at h
        · rename_i c ho
          split at h
          · rename_i f hc
            obtain ⟨res, h1, h2, h3⟩ := h
            have happ : isApp c = false := by
              unfold isApp
              split
              · cases hc
              · rfl
            unfold asem
            simp only [ho, happ, cond_false]
            unfold aval
            simp only [hc]
            refine ⟨res, h1, fun x hx => ?_, ih h3⟩
            rw [List.all_eq_true] at h2
            exact h2 _ (List.mem_map.2 ⟨x, hx, rfl⟩)
          · exact h.elim
        · exact h.elim
    · rename_i hg
      simp only [hg]
      exact ih h
    · exact h.elim
end
section
variable {P : Program} {T : Tbl} {N : Nat} {F : Nat → Nat → Prop} {w0 w w' : World} {s : AS} {a : Act} {tok : Tok} {bx : Bx}
theorem cwp_sound (hT : T.Ok P) (hm : P.follows .mixedOrders = true) (V : List Nat) : ∀ (c : Code), okC N c = true → ∀ {s : AS} {a : Act} {w : World} {Qa : AEx → AS → Prop} {Q : Exit → Act → World → Prop}, R P N F w0 s a w → cwp P T V c s Qa → (∀ e s' a' w', Qa e s' → R P N F w0 s' a' w' → Q (toE e) a' w') → c.wp P Q a w := by
  intro c
  induction c with
  | skip => intro _ s a w Qa Q hr h hQ; exact wp_skip (hQ .nrm _ _ _ h hr)
  | region id ops draw =>
    intro hok s a w Qa Q hr h hQ
    simp only [okC, Bool.and_eq_true] at hok
    cases draw with
    | true => exact draw_sound hT hm hok.2 (fun o ho => List.all_eq_true.1 hok.1 o ho) hr (rk_sound _ h) fun s' a' w' hs hr' => hQ .nrm _ _ _ hs (hr'.keep V)
    | false =>
      exact wp_region_list (aops_sound hT ops.toList (fun o ho => List.all_eq_true.1 hok.1 o ho) hr (rk_sound _ h) fun s' a' w' hs hr' => hQ .nrm _ _ _ hs (hr'.keep V))
  | seq x y ihx ihy =>
    intro hok s a w Qa Q hr h hQ
    simp only [okC, Bool.and_eq_true] at hok
    refine wp_seq (ihx hok.1 hr h fun e s' a' w' hs hr' => ?_)
    cases e with
    | nrm => exact ihy hok.2 hr' hs hQ
    | ext i => exact hQ (.ext i) _ _ _ hs hr'
    | ret => exact hQ .ret _ _ _ hs hr'
  | cond c x y ihx ihy =>
    intro hok s a w Qa Q hr h hQ
    simp only [okC, Bool.and_eq_true] at hok
    unfold cwp at h
    obtain ⟨tok, bx, g⟩ := hr
    cases hb : (s.eval c).bool? with
    | none => rw [hb] at h; exact h.elim
    | some b =>
      rw [hb] at h
      have hc := rep_bool (g.eval c) hb
      cases b with
      | true => exact wp_cond_true hc (ihx hok.1 ⟨tok, bx, g⟩ h hQ)
      | false => exact wp_cond_false hc (ihy hok.2 ⟨tok, bx, g⟩ h hQ)
  | block id c ih =>
    intro hok s a w Qa Q hr h hQ
    refine wp_block (ih hok hr h fun e s' a' w' hs hr' => ?_)
    cases e with
    | nrm => exact hQ .nrm _ _ _ hs hr'
    | ret => exact hQ .ret _ _ _ hs hr'
    | ext i =>
      replace hs : (bif Nat.beq i id then Qa .nrm s' else Qa (.ext i) s') := hs
      show if i = id then Q .normal a' w' else Q (.exit i) a' w'
      cases hb : Nat.beq i id with
      | true =>
        rw [hb] at hs
        rw [if_pos (Nat.eq_of_beq_eq_true hb)]
        exact hQ .nrm _ _ _ hs hr'
      | false =>
        rw [hb] at hs
        rw [if_neg (fun e => by rw [e] at hb; simp at hb)]
        exact hQ (.ext i) _ _ _ hs hr'
  | loop c ih =>
    intro hok s a w Qa Q hr h hQ
    obtain ⟨I, L, ⟨n, ids, hn⟩, hI⟩ := h
    refine wp_loopn (fun n a w => ∃ s, I n s ∧ R P N F w0 s a w) n ⟨_, hn, hr.head ids L⟩ fun n a w ⟨s, hs, hr⟩ => ih hok hr (hI n s hs) fun e s' a' w' hs hr' => ?_
    cases e with
    | nrm =>
      obtain ⟨m, ids, hm, hs⟩ := hs
      exact ⟨m, hm, _, hs, hr'.head ids L⟩
    | ext i => exact hQ (.ext i) _ _ _ hs hr'
    | ret => exact hQ .ret _ _ _ hs hr'
  | exit id => intro _ s a w Qa Q hr h hQ; exact wp_exit (hQ (.ext id) _ _ _ h hr)
  | ret => intro _ s a w Qa Q hr h hQ; exact wp_ret (hQ .ret _ _ _ h hr)
  | label l => intro _ s a w Qa Q hr h hQ; exact wp_label (hQ .nrm _ _ _ h hr)
  | _ => intro _ s a w Qa Q hr h hQ; exact h.elim
end
end Go.Proofs.Ytpemfmlonamikaa.Av
