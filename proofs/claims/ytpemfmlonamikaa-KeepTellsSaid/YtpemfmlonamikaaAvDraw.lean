/- Abstract values: a region that draws its order, of operations that read: the order of the text serves for all. Plain: over any program. -/
import Derived.Test.YtpemfmlonamikaaAvRun
import Derived.Orders
namespace Go.Proofs.Ytpemfmlonamikaa.Av
open Go Go.RowKit

def namesOf (all : List Oper) (o : Oper) : List Nat :=
  (o.op.operands.toList.filterMap fun | .tmp t => some t | _ => none) ++ (match o.guard with | none => [] | some (j, _) => (((all[j]?).bind (·.dst)).toList))
def dstIs (o : Oper) (t : Nat) : Bool := match o.dst with | some d => Nat.beq d t | none => false
def after? (o : Oper) (i : Nat) : Bool := o.after.toList.any fun e => Nat.beq e.on i && Region.binds .any e
def pureOp : Op → Bool
  | .assign x => !isNilO x
  | .call c => !isApp c
  | .box .. | .alloc _ | .store .. | .buildSlice .. => false
  | _ => true
def drawOk (ops : List Oper) : Bool :=
  let z : List (Oper × Nat) := ops.zipIdx
  (z.all fun p => pureOp p.1.op && p.1.dst.isSome && p.1.after.toList.all fun e => !Region.binds .any e || Nat.blt e.on p.2) &&
  z.all fun p => z.all fun q => Nat.beq p.2 q.2 || (match p.1.dst with | none => true | some d => !dstIs q.1 d && (!(namesOf ops q.1).elem d || (bif Nat.blt p.2 q.2 then after? q.1 p.2 else after? p.1 q.2)))
structure DrawOk (ops : List Oper) : Prop where
  pure : ∀ (i : Nat) (o : Oper), ops[i]? = some o → pureOp o.op = true
  dst : ∀ (i : Nat) (o : Oper), ops[i]? = some o → ∃ d, o.dst = some d
  fwd : ∀ (i : Nat) (o : Oper), ops[i]? = some o → ∀ e ∈ o.after, Region.binds .any e = true → e.on < i
  one : ∀ (i j : Nat) (o o' : Oper) (d : Nat), ops[i]? = some o → ops[j]? = some o' → o.dst = some d → o'.dst = some d → i = j
  dep : ∀ (i j : Nat) (o o' : Oper) (d : Nat), ops[i]? = some o → ops[j]? = some o' → i ≠ j → o.dst = some d → d ∈ namesOf ops o' → (i < j → ∃ e ∈ o'.after, e.on = i ∧ Region.binds .any e = true) ∧ (j < i → ∃ e ∈ o.after, e.on = j ∧ Region.binds .any e = true)
theorem drawOk_spec {ops : List Oper} (h : drawOk ops = true) : DrawOk ops := by
  unfold drawOk at h
  simp only [Bool.and_eq_true, List.all_eq_true] at h
  obtain ⟨h1, h2⟩ := h
  have hz : ∀ {i : Nat} {o : Oper}, ops[i]? = some o → (o, i) ∈ ops.zipIdx := fun {i o} hi => by
    rw [List.mem_zipIdx_iff_getElem?]; exact hi
  have haf : ∀ {o : Oper} {i : Nat}, after? o i = true → ∃ e ∈ o.after, e.on = i ∧ Region.binds .any e = true := fun {o i} ha => by
    unfold after? at ha
    rw [List.any_eq_true] at ha
    obtain ⟨e, he, hb⟩ := ha
    rw [Bool.and_eq_true] at hb
    exact ⟨e, by simpa using he, Nat.eq_of_beq_eq_true hb.1, hb.2⟩
  refine ⟨fun i o ho => (h1 _ (hz ho)).1.1, fun i o ho => Option.isSome_iff_exists.1 (h1 _ (hz ho)).1.2, fun i o ho e he hb => ?_, fun i j o o' d ho ho' hd hd' => ?_, fun i j o o' d ho ho' hij hd hn => ?_⟩
  · have := (h1 _ (hz ho)).2 e (by simpa using he)
    simp only [hb, Bool.not_true, Bool.false_or] at this
    exact Nat.le_of_ble_eq_true this
  · have := h2 _ (hz ho) _ (hz ho')
    simp only [hd, Bool.or_eq_true, Bool.and_eq_true] at this
    rcases this with h | ⟨h, _⟩
    · exact Nat.eq_of_beq_eq_true h
    · simp [dstIs, hd'] at h
  · have := h2 _ (hz ho) _ (hz ho')
    simp only [hd, Bool.or_eq_true, Bool.and_eq_true] at this
    rcases this with h | ⟨_, h⟩
    · exact absurd (Nat.eq_of_beq_eq_true h) hij
    · rcases h with h | h
      · rw [List.elem_eq_true_of_mem hn] at h; cases h
      · refine ⟨fun hlt => ?_, fun hlt => ?_⟩
        · have hb : Nat.blt i j = true := by rw [Nat.blt_eq]; exact hlt
          rw [hb] at h
          exact haf h
        · have hb : Nat.blt i j = false := by rw [← Bool.not_eq_true, Nat.blt_eq]; omega
          rw [hb] at h
          exact haf h

section
variable {P : Program} {T : Tbl} {N : Nat} {F : Nat → Nat → Prop} {w0 w w' : World} {s : AS} {a : Act} {tok : Tok} {bx : Bx} {o : Oper} {K : AS → Prop} {Kc : Act → World → Prop} {Q : Exit → Act → World → Prop}
/-- An operation that reads has one value. -/
theorem aval_split {op : Op} {ρ : Operand → AV} {rd : AV → Option (List AV)} {K : AV → Prop} (h : aval P T op ρ rd K) : ∃ v, K v ∧ ∀ K' : AV → Prop, K' v → aval P T op ρ rd K' := by
  cases op with
  | move x => exact ⟨_, h, fun K' h' => h'⟩
  | assign x => exact ⟨_, h, fun K' h' => h'⟩
  | pick c x y =>
    obtain ⟨b, hb, h⟩ := ox_iff.1 h
    exact ⟨_, h, fun K' h' => ox_iff.2 ⟨b, hb, h'⟩⟩
  | binOp op t x y ty =>
    obtain ⟨r, hr, h⟩ := ox_iff.1 h
    exact ⟨_, h, fun K' h' => ox_iff.2 ⟨r, hr, h'⟩⟩
  | unOp op t x =>
    obtain ⟨u, hu, h⟩ := ox_iff.1 h
    obtain ⟨r, hr, h⟩ := ox_iff.1 h
    exact ⟨_, h, fun K' h' => ox_iff.2 ⟨u, hu, ox_iff.2 ⟨r, hr, h'⟩⟩⟩
  | load t x =>
    obtain ⟨z, hz, h⟩ := ox_iff.1 h
    obtain ⟨cs, hcs, h⟩ := ox_iff.1 h
    cases z with
    | none =>
      obtain ⟨c, hc, h⟩ := ox_iff.1 h
      exact ⟨_, h, fun K' h' => ox_iff.2 ⟨none, hz, ox_iff.2 ⟨cs, hcs, ox_iff.2 ⟨c, hc, h'⟩⟩⟩⟩
    | some n => exact ⟨_, h.2, fun K' h' => ox_iff.2 ⟨some n, hz, ox_iff.2 ⟨cs, hcs, h.1, h'⟩⟩⟩
  | fieldAddr t x f =>
    obtain ⟨off, hoff, h⟩ := ox_iff.1 h
    cases hx : ρ x with
    | ref cs =>
      simp only [hx] at h
      exact ⟨_, h, fun K' h' => ox_iff.2 ⟨off, hoff, by simp only [hx]; exact h'⟩⟩
    | ptr id k =>
      simp only [hx] at h
      exact ⟨_, h, fun K' h' => ox_iff.2 ⟨off, hoff, by simp only [hx]; exact h'⟩⟩
    | _ => simp only [hx] at h
  | indexAddr t x i =>
    obtain ⟨I, hI, h⟩ := ox_iff.1 h
    obtain ⟨items, hit, h⟩ := ox_iff.1 h
    obtain ⟨n, hn, h0, h⟩ := ox_iff.1 h
    obtain ⟨it, hi, hl, h⟩ := ox_iff.1 h
    exact ⟨_, h, fun K' h' => ox_iff.2 ⟨I, hI, ox_iff.2 ⟨items, hit, ox_iff.2 ⟨n, hn, h0, ox_iff.2 ⟨it, hi, hl, h'⟩⟩⟩⟩⟩
  | build t parts =>
    obtain ⟨z, hz, h⟩ := ox_iff.1 h
    obtain ⟨pl, hpl, h1, h⟩ := ox_iff.1 h
    obtain ⟨cs, hcs, h⟩ := ox_iff.1 h
    exact ⟨_, h, fun K' h' => ox_iff.2 ⟨z, hz, ox_iff.2 ⟨pl, hpl, h1, ox_iff.2 ⟨cs, hcs, h'⟩⟩⟩⟩
  | extract x i =>
    unfold aval at h ⊢
    cases hx : ρ x with
    | tup cs =>
      simp only [hx] at h
      obtain ⟨c, hc, h⟩ := ox_iff.1 h
      exact ⟨_, h, fun K' h' => by simp only [hx]; exact ox_iff.2 ⟨c, hc, h'⟩⟩
    | _ => simp only [hx] at h
  | slice t x lo hi mx =>
    cases mx with
    | some m => exact h.elim
    | none =>
      obtain ⟨r, hr, h⟩ := ox_iff.1 h
      exact ⟨_, h, fun K' h' => ox_iff.2 ⟨r, hr, h'⟩⟩
  | convert t0 t x =>
    obtain ⟨k0, hk0, h⟩ := ox_iff.1 h
    obtain ⟨k, hk, h⟩ := ox_iff.1 h
    obtain ⟨n, hn, h⟩ := ox_iff.1 h
    exact ⟨_, h, fun K' h' => ox_iff.2 ⟨k0, hk0, ox_iff.2 ⟨k, hk, ox_iff.2 ⟨n, hn, h'⟩⟩⟩⟩
  | call c =>
    unfold aval at h ⊢
    simp only at h ⊢
    split at h
    · rename_i hc hx
      obtain ⟨t, ht, h⟩ := ox_iff.1 h
      obtain ⟨n, hn, h⟩ := ox_iff.1 h
      exact ⟨_, h, fun K' h' => ox_iff.2 ⟨t, ht, ox_iff.2 ⟨n, hn, h'⟩⟩⟩
    · rename_i hc hx
      obtain ⟨m, hm, h⟩ := ox_iff.1 h
      obtain ⟨n, hn, h⟩ := ox_iff.1 h
      exact ⟨_, h, fun K' h' => ox_iff.2 ⟨m, hm, ox_iff.2 ⟨n, hn, h'⟩⟩⟩
    · rename_i hc hx
      obtain ⟨m, hm, h⟩ := ox_iff.1 h
      obtain ⟨n, hn, h⟩ := ox_iff.1 h
      exact ⟨_, h, fun K' h' => ox_iff.2 ⟨m, hm, ox_iff.2 ⟨n, hn, h'⟩⟩⟩
    · rename_i hc
      obtain ⟨res, h1, h2, h3⟩ := h
      exact ⟨_, h3, fun K' h' => ⟨res, h1, h2, h'⟩⟩
    · exact h.elim
  | _ => exact h.elim
theorem abuild_local {pl : List (Nat × Nat)} {ρ ρ' : Operand → AV} : ∀ (parts : List (Nat × Operand)) (cs : List AV), (∀ p ∈ parts, ρ p.2 = ρ' p.2) → abuild pl ρ parts cs = abuild pl ρ' parts cs := by
  intro parts
  induction parts with
  | nil => intro cs _; rfl
  | cons p parts ih =>
    obtain ⟨i, x⟩ := p
    intro cs h
    have h0 := h (i, x) (by simp)
    simp only at h0
    simp only [abuild, h0]
    split
    · split
      · exact ih _ fun p hp => h p (by simp [hp])
      · rfl
    · rfl
theorem aval_local {op : Op} {ρ ρ' : Operand → AV} {rd : AV → Option (List AV)} {K : AV → Prop} (hρ : ∀ x ∈ op.operands, ρ x = ρ' x) (h : aval P T op ρ rd K) : aval P T op ρ' rd K := by
  cases op with
  | move x => unfold aval at *; simp only at *; rw [← hρ x (by simp [Op.operands])]; exact h
  | assign x => unfold aval at *; simp only at *; rw [← hρ x (by simp [Op.operands])]; exact h
  | pick c x y => unfold aval at *; simp only at *; rw [← hρ c (by simp [Op.operands]), ← hρ x (by simp [Op.operands]), ← hρ y (by simp [Op.operands])]; exact h
  | binOp op _ x y _ => unfold aval at *; simp only at *; rw [← hρ x (by simp [Op.operands]), ← hρ y (by simp [Op.operands])]; exact h
  | unOp op _ x => unfold aval at *; simp only at *; rw [← hρ x (by simp [Op.operands])]; exact h
  | load _ x => unfold aval at *; simp only at *; rw [← hρ x (by simp [Op.operands])]; exact h
  | fieldAddr _ x _ => unfold aval at *; simp only at *; rw [← hρ x (by simp [Op.operands])]; exact h
  | indexAddr _ x y => unfold aval at *; simp only at *; rw [← hρ x (by simp [Op.operands]), ← hρ y (by simp [Op.operands])]; exact h
  | build t parts =>
    unfold aval at *
    simp only at *
    have e : ∀ (pl : List (Nat × Nat)) (cs : List AV), abuild pl ρ' parts.toList cs = abuild pl ρ parts.toList cs := fun pl cs => (abuild_local parts.toList cs fun p hp => hρ p.2 (by simp only [Op.operands]; simpa using ⟨p.1, by simpa using hp⟩)).symm
    simp only [e]
    exact h
  | extract x _ => unfold aval at *; simp only at *; rw [← hρ x (by simp [Op.operands])]; exact h
  | slice _ x lo hi mx =>
    cases mx with
    | some m => exact h.elim
    | none =>
      have e1 : lo.map ρ' = lo.map ρ := by
        cases lo with
        | none => rfl
        | some y => simp only [Option.map_some]; rw [← hρ y (by simp [Op.operands])]
      have e2 : hi.map ρ' = hi.map ρ := by
        cases hi with
        | none => rfl
        | some y => simp only [Option.map_some]; rw [← hρ y (by simp [Op.operands])]
      unfold aval at *; simp only at *
      rw [← hρ x (by simp [Op.operands]), e1, e2]; exact h
  | convert _ _ x => unfold aval at *; simp only at *; rw [← hρ x (by simp [Op.operands])]; exact h
  | call c =>
    have hargs : ∀ x ∈ c.args.toList, ρ x = ρ' x := fun x hx => hρ x (by
      show x ∈ c.operands
      unfold Call.operands
      rw [Array.mem_append]
      exact .inr (by simpa using hx))
    unfold aval at *
    simp only at *
    split at h
    · rename_i hc hx
      have e := hargs _ (by rw [hx]; exact List.mem_cons_self)
      rw [← e]; exact h
    · rename_i hc hx
      have e := hargs _ (by rw [hx]; exact List.mem_cons_self)
      have e' := hargs _ (by rw [hx]; exact List.mem_cons_of_mem _ List.mem_cons_self)
      rw [← e, ← e']; exact h
    · rename_i hc hx
      have e := hargs _ (by rw [hx]; exact List.mem_cons_self)
      have e' := hargs _ (by rw [hx]; exact List.mem_cons_of_mem _ List.mem_cons_self)
      rw [← e, ← e']; exact h
    · rename_i hc
      obtain ⟨res, h1, h2, h3⟩ := h
      refine ⟨res, ?_, fun x hx => by rw [← hargs x hx]; exact h2 x hx, h3⟩
      have : (c.args.toList.map fun x => (ρ' x).view) = c.args.toList.map fun x => (ρ x).view := List.map_congr_left fun x hx => by rw [hargs x hx]
      rw [this]; exact h1
    · exact h.elim
  | _ => exact h.elim

/-! ### the walk in the text's order, and any other -/
def stAt (s : AS) (ops : List Oper) (vals : List AV) : Nat → AS
  | 0 => s
  | n + 1 => (stAt s ops vals n).put ((ops[n]?).bind (·.dst)) ((vals[n]?).getD .dead)
def OpVal (P : Program) (T : Tbl) (all : List Oper) (o : Oper) (s : AS) (v : AV) : Prop :=
  ∃ g, gsem all s o = some g ∧ (g = true → ∀ K' : AV → Prop, K' v → aval P T o.op s.eval s.read K') ∧ (g = false → v = .skip)
theorem asem_pure (hp : pureOp o.op = true) (h : asem P T o s K) : aval P T o.op s.eval s.read fun v => K (s.put o.dst v) := by
  unfold asem at h
  split at h
  · rename_i x ho
    rw [ho] at hp
    simp only [pureOp, Bool.not_eq_true'] at hp
    split at h
    · rename_i hi
      rw [hp] at hi; cases hi
    · rw [ho]; exact h
  · rename_i ho; rw [ho] at hp; cases hp
  · rename_i ho; rw [ho] at hp; cases hp
  · rename_i ho; rw [ho] at hp; cases hp
  · rename_i ho; rw [ho] at hp; cases hp
  · rename_i c ho
    rw [ho] at hp
    simp only [pureOp, Bool.not_eq_true'] at hp
    rw [hp] at h
    rw [ho]; exact h
  · exact h
/-- The values of the walk in the text's order. -/
theorem aops_vals {all : List Oper} (hp : ∀ o ∈ all, pureOp o.op = true) : ∀ (l : List Oper) (k : Nat) (s0 : AS) (pre : List AV), (∀ j, l[j]? = all[k + j]?) → pre.length = k → all.length = k + l.length → aops P T all l (stAt s0 all pre k) K →
    ∃ vals : List AV, vals.length = all.length ∧ vals.take k = pre ∧ (∀ i o, k ≤ i → all[i]? = some o → OpVal P T all o (stAt s0 all vals i) ((vals[i]?).getD .dead)) ∧ K (stAt s0 all vals all.length) := by
  have hst : ∀ (s0 : AS) (v1 v2 : List AV) (n : Nat), v1.take n = v2.take n → stAt s0 all v1 n = stAt s0 all v2 n := by
    intro s0 v1 v2 n
    induction n with
    | zero => intro _; rfl
    | succ n ih =>
      intro h
      have h1 : v1.take n = v2.take n := by
        have := congrArg (List.take n) h
        rwa [List.take_take, List.take_take, Nat.min_eq_left (Nat.le_succ n)] at this
      have h2 : v1[n]? = v2[n]? := by
        have := congrArg (·[n]?) h
        simpa [List.getElem?_take_of_lt (Nat.lt_succ_self n)] using this
      show AS.put _ _ _ = AS.put _ _ _
      rw [ih h1, h2]
  intro l
  induction l with
  | nil =>
    intro k s0 pre hl hk hlen h
    refine ⟨pre, by simp at hlen; omega, by rw [← hk, List.take_length], fun i o hi ho => ?_, ?_⟩
    · have := (List.getElem?_eq_some_iff.1 ho).1
      simp at hlen; omega
    · simp only [List.length_nil, Nat.add_zero] at hlen
      rw [hlen]; exact h
  | cons o l ih =>
    intro k s0 pre hl hk hlen h
    obtain ⟨g, hg, h1, h2⟩ := aops_cons h
    have ho : all[k]? = some o := by have := hl 0; simpa using this.symm
    have hom := hp o (List.mem_of_getElem? ho)
    have key : ∃ v, aops P T all l ((stAt s0 all pre k).put o.dst v) K ∧ OpVal P T all o (stAt s0 all pre k) v := by
      cases g with
      | true =>
        obtain ⟨v, hv, hall⟩ := aval_split (asem_pure hom (h1 rfl))
        exact ⟨v, hv, true, hg, fun _ => hall, fun h => by cases h⟩
      | false => exact ⟨.skip, h2 rfl, false, hg, fun h => (by cases h), fun _ => rfl⟩
    obtain ⟨v, hv, hov⟩ := key
    have hpre : (pre ++ [v]).take k = pre := by rw [← hk]; simp
    have hs1 : stAt s0 all (pre ++ [v]) (k + 1) = (stAt s0 all pre k).put o.dst v := by
      show AS.put _ _ _ = _
      rw [hst s0 (pre ++ [v]) pre k (by rw [hpre, ← hk, List.take_length]), ho, List.getElem?_append_right (by omega), hk]
      simp
    obtain ⟨vals, e1, e2, e3, e4⟩ := ih (k + 1) s0 (pre ++ [v]) (fun j => by have := hl (j + 1); simpa [Nat.add_assoc, Nat.add_comm 1 j] using this) (by simp [hk]) (by simp at hlen; omega) (by rw [hs1]; exact hv)
    have e2' : vals.take k = pre := by
      have := congrArg (List.take k) e2
      rw [List.take_take, Nat.min_eq_left (Nat.le_succ k), hpre] at this
      exact this
    refine ⟨vals, e1, e2', fun i o' hi ho' => ?_, e4⟩
    rcases Nat.lt_or_ge k i with hlt | hge
    · exact e3 i o' hlt ho'
    · obtain rfl : i = k := by omega
      rw [ho] at ho'
      injection ho' with ho'
      subst ho'
      rw [hst s0 vals pre i (by rw [e2', ← hk, List.take_length])]
      have : vals[i]? = some v := by
        have := congrArg (·[i]?) e2
        simp only [List.getElem?_take_of_lt (Nat.lt_succ_self i)] at this
        rw [this, List.getElem?_append_right (by omega), hk]; simp
      rw [this]; exact hov

/-! ### any order -/
def findL (all : List Oper) (p : Nat → Bool) (t : Nat) : Option Nat := (List.range all.length).find? fun i => p i && (match all[i]? with | some o => dstIs o t | none => false)
def valL (s0 : AS) (all : List Oper) (vals : List AV) (p : Nat → Bool) (t : Nat) : AV := match findL all p t with | some i => (vals[i]?).getD .dead | none => s0.get t
theorem dstIs_iff {o : Oper} {t : Nat} : dstIs o t = true ↔ o.dst = some t := by
  unfold dstIs
  cases h : o.dst with
  | none => simp
  | some d => simp only [Option.some.injEq]; exact ⟨Nat.eq_of_beq_eq_true, fun e => by subst e; simp⟩
theorem valL_hit {s0 : AS} {all : List Oper} {vals : List AV} {p : Nat → Bool} {t i : Nat} {o : Oper} (hone : ∀ (i j : Nat) (o o' : Oper) (d : Nat), all[i]? = some o → all[j]? = some o' → o.dst = some d → o'.dst = some d → i = j)
    (hi : all[i]? = some o) (hp : p i = true) (hd : o.dst = some t) : valL s0 all vals p t = (vals[i]?).getD .dead := by
  have hlt := (List.getElem?_eq_some_iff.1 hi).1
  have : findL all p t = some i := by
    unfold findL
    cases hf : (List.range all.length).find? fun i => p i && (match all[i]? with | some o => dstIs o t | none => false) with
    | none =>
      rw [List.find?_eq_none] at hf
      have := hf i (by simpa using hlt)
      simp only [hp, hi, Bool.true_and] at this
      exact absurd (dstIs_iff.2 hd) this
    | some j =>
      have h1 := List.find?_some hf
      rw [Bool.and_eq_true] at h1
      cases ho : all[j]? with
      | none => rw [ho] at h1; cases h1.2
      | some o' =>
        rw [ho] at h1
        rw [hone j i o' o t ho hi (dstIs_iff.1 h1.2) hd]
  unfold valL
  rw [this]
theorem valL_miss {s0 : AS} {all : List Oper} {vals : List AV} {p : Nat → Bool} {t : Nat} (h : ∀ i o, all[i]? = some o → p i = true → o.dst ≠ some t) : valL s0 all vals p t = s0.get t := by
  have : findL all p t = none := by
    unfold findL
    rw [List.find?_eq_none]
    intro i hi hc
    rw [Bool.and_eq_true] at hc
    cases ho : all[i]? with
    | none => rw [ho] at hc; cases hc.2
    | some o => rw [ho] at hc; exact h i o ho hc.1 (dstIs_iff.1 hc.2)
  unfold valL
  rw [this]
theorem get_put (s : AS) (d : Option Nat) (v : AV) (t : Nat) : (s.put d v).get t = if d = some t then v else s.get t := by
  cases d with
  | none => simp [AS.put]
  | some d =>
    show (s.set d v).get t = _
    rw [AS.get_set]
    by_cases h : t = d
    · simp [h]
    · have : ¬ d = t := fun e => h e.symm
      simp [h, this]
theorem stAt_get {s0 : AS} {all : List Oper} {vals : List AV} (hone : ∀ (i j : Nat) (o o' : Oper) (d : Nat), all[i]? = some o → all[j]? = some o' → o.dst = some d → o'.dst = some d → i = j) (t : Nat) : ∀ n, (stAt s0 all vals n).get t = valL s0 all vals (fun i => Nat.blt i n) t := by
  intro n
  induction n with
  | zero => rw [valL_miss fun i o _ hp => by simp at hp]; rfl
  | succ n ih =>
    show (AS.put _ _ _).get t = _
    rw [get_put]
    by_cases h : (all[n]?).bind (·.dst) = some t
    · rw [if_pos h]
      rw [Option.bind_eq_some_iff] at h
      obtain ⟨o, ho, hd⟩ := h
      rw [valL_hit hone ho (by simp) hd]
    · rw [if_neg h, ih]
      by_cases hx : ∃ (i : Nat) (o : Oper), all[i]? = some o ∧ i < n ∧ o.dst = some t
      · obtain ⟨i, o, ho, hlt, hd⟩ := hx
        rw [valL_hit hone ho (by simp; exact hlt) hd, valL_hit hone ho (by simp; omega) hd]
      · rw [valL_miss fun i o ho hp hd => hx ⟨i, o, ho, by simpa using hp, hd⟩, valL_miss fun i o ho hp hd => ?_]
        have hp' : i < n + 1 := by simpa using hp
        rcases Nat.lt_or_ge i n with h1 | h1
        · exact hx ⟨i, o, ho, h1, hd⟩
        · obtain rfl : i = n := by omega
          exact h (by rw [ho]; exact hd)
theorem stAt_box {s0 : AS} {all : List Oper} {vals : List AV} : ∀ n, (stAt s0 all vals n).box = s0.box := by
  intro n
  induction n with
  | zero => rfl
  | succ n ih =>
    show (AS.put _ _ _).box = _
    rw [← ih]
    cases (all[n]?).bind (·.dst) <;> rfl
theorem Good.ext {s' : AS} (g : Good P N F w0 s a w tok bx) (hb : s'.box = s.box) (h : ∀ t, s'.get t = s.get t) : Good P N F w0 s' a w tok bx :=
  { g with slots := fun t => by rw [h]; exact g.slots t, boxes := fun id cs hcs => g.boxes id cs (by unfold AS.getb at *; rw [← hb]; exact hcs) }
theorem filter_lt {α : Type} {p q : α → Bool} {x : α} : ∀ {l : List α}, x ∈ l → p x = true → q x = false → (∀ y, q y = true → p y = true) → (l.filter q).length < (l.filter p).length := by
  intro l
  induction l with
  | nil => intro h; cases h
  | cons y l ih =>
    intro hx hp hq h
    have hle : (l.filter q).length ≤ (l.filter p).length := by
      clear ih hx
      induction l with
      | nil => exact Nat.le_refl _
      | cons z l ih =>
        rw [List.filter_cons, List.filter_cons]
        cases hqz : q z with
        | true => rw [h z hqz]; simp; exact ih
        | false => cases p z <;> simp <;> omega
    rcases List.mem_cons.1 hx with rfl | hx
    · rw [List.filter_cons, List.filter_cons, hp, hq]; simp; omega
    · have := ih hx hp hq h
      rw [List.filter_cons, List.filter_cons]
      cases hqz : q y with
      | true => rw [h y hqz]; simp; exact this
      | false => cases p y <;> simp <;> omega
theorem realise (s0 : AS) (f : Nat → AV) : ∀ (l : List Nat), (∀ t, t ∉ l → f t = s0.get t) → ∃ S : AS, S.box = s0.box ∧ ∀ t, S.get t = f t := by
  intro l h
  refine ⟨⟨(l.map fun t => (t, f t)) ++ s0.env, s0.box⟩, rfl, fun t => ?_⟩
  have key : ∀ l : List Nat, lkp AV.dead ((l.map fun t => (t, f t)) ++ s0.env) t = if t ∈ l then f t else s0.get t := by
    intro l
    induction l with
    | nil => simp [AS.get]
    | cons x l ih =>
      show (bif Nat.beq x t then f x else lkp .dead ((l.map fun t => (t, f t)) ++ s0.env) t) = _
      cases hb : Nat.beq x t with
      | true =>
        have := Nat.eq_of_beq_eq_true hb
        subst this
        simp
      | false =>
        have hne : t ≠ x := fun e => by subst e; simp at hb
        rw [cond_false, ih]
        simp [hne]
  show lkp AV.dead ((l.map fun t => (t, f t)) ++ s0.env) t = f t
  rw [key]
  split
  · rfl
  · rename_i hn; exact (h t hn).symm
def unl (n : Nat) (listed : Array Bool) : Nat := ((List.range n).filter fun i => !listed.getD i false).length
structure Inv (P : Program) (N : Nat) (F : Nat → Nat → Prop) (w0 : World) (s0 : AS) (ops : Array Oper) (vals : List AV) (listed : Array Bool) (a : Act) (w : World) : Prop where
  size : listed.size = ops.size
  closed : ∀ i o, ops[i]? = some o → listed.getD i false = true → ∀ e ∈ o.after, Region.binds .any e = true → listed.getD e.on false = true
  good : ∀ s', s'.box = s0.box → (∀ t, s'.get t = valL s0 ops.toList vals (fun i => listed.getD i false) t) → R P N F w0 s' a w
theorem getD_true {listed : Array Bool} {i : Nat} (h : i < listed.size) : listed.getD i true = listed.getD i false := by
  simp [Array.getD_eq_getD_getElem?, h]
theorem getD_set' {listed : Array Bool} {i j : Nat} (h : i < listed.size) : (listed.setIfInBounds i true).getD j false = if j = i then true else listed.getD j false := by
  by_cases hj : j = i
  · subst hj; simp [h]
  · rw [if_neg hj, getD_set_ne false (fun e => hj e.symm)]
theorem draw_any {ops : Array Oper} {vals : List AV} {s0 : AS} (hT : T.Ok P) (hok : DrawOk ops.toList) (hdN : ∀ o ∈ ops.toList, okD N o = true) (hv : ∀ i o, ops.toList[i]? = some o → OpVal P T ops.toList o (stAt s0 ops.toList vals i) ((vals[i]?).getD .dead))
    (hend : ∀ a w, (∀ s', s'.box = s0.box → (∀ t, s'.get t = (stAt s0 ops.toList vals ops.toList.length).get t) → R P N F w0 s' a w) → Q .normal a w) :
    ∀ (fuel : Nat) (listed : Array Bool) (a : Act) (w : World), unl ops.size listed ≤ fuel → Inv P N F w0 s0 ops vals listed a w → wpAny P .any ops Q fuel listed a w := by
  have hend' : ∀ (listed : Array Bool) (a : Act) (w : World), Region.ready .any ops listed = [] → Inv P N F w0 s0 ops vals listed a w → Q .normal a w := by
    intro listed a w hr hI
    have hall : ∀ i, i < ops.size → listed.getD i false = true := by
      intro i
      induction i using Nat.strongRecOn with
      | _ i ih =>
        intro hi
        rcases hl : listed.getD i false with _ | _
        · exfalso
          have ho : ops[i]? = some ops[i] := Array.getElem?_eq_getElem hi
          have : i ∈ Region.ready .any ops listed := mem_ready.2 ⟨by rw [getD_true (by rw [hI.size]; exact hi)]; exact hl, _, ho, fun e he hb => ih e.on (hok.fwd i _ (by rw [Array.getElem?_toList]; exact ho) e he hb) (by
            have := hok.fwd i _ (by rw [Array.getElem?_toList]; exact ho) e he hb
            omega)⟩
          rw [hr] at this
          cases this
        · rfl
    refine hend a w fun s' hb hg => hI.good s' hb fun t => ?_
    rw [hg, stAt_get hok.one]
    by_cases hx : ∃ (i : Nat) (o : Oper), ops.toList[i]? = some o ∧ o.dst = some t
    · obtain ⟨i, o, ho, hd⟩ := hx
      have hlt := (List.getElem?_eq_some_iff.1 ho).1
      rw [valL_hit hok.one ho (by simpa using hlt) hd, valL_hit hok.one ho (hall i (by simpa using hlt)) hd]
    · rw [valL_miss fun i o ho _ hd => hx ⟨i, o, ho, hd⟩, valL_miss fun i o ho _ hd => hx ⟨i, o, ho, hd⟩]
  intro fuel
  induction fuel with
  | zero =>
    intro listed a w hu hI
    have hr : Region.ready .any ops listed = [] := by
      rw [List.eq_nil_iff_forall_not_mem]
      intro i hi
      obtain ⟨h1, o, ho, _⟩ := mem_ready.1 hi
      have hlt := (Array.getElem?_eq_some_iff.1 ho).1
      rw [getD_true (by rw [hI.size]; exact hlt)] at h1
      have : i ∈ (List.range ops.size).filter fun i => !listed.getD i false := by
        rw [List.mem_filter]; exact ⟨by simpa using hlt, by rw [h1]; rfl⟩
      have := List.length_pos_of_mem this
      unfold unl at hu
      omega
    exact ⟨hr, hend' listed a w hr hI⟩
  | succ fuel ih =>
    intro listed a w hu hI
    refine ⟨fun hr => hend' listed a w hr hI, fun i hi => ?_⟩
    obtain ⟨h1, o, ho, hall⟩ := mem_ready.1 hi
    have hlt := (Array.getElem?_eq_some_iff.1 ho).1
    have hls : i < listed.size := by rw [hI.size]; exact hlt
    rw [getD_true hls] at h1
    have ho' : ops.toList[i]? = some o := by rw [Array.getElem?_toList]; exact ho
    obtain ⟨d, hd⟩ := hok.dst i o ho'
    have hdN' : ∀ k, o.dst = some k → k < N := fun k hk => by
      have := hdN o (List.mem_of_getElem? ho')
      unfold okD at this
      rw [hk] at this
      exact Nat.le_of_ble_eq_true this
    -- what the operation names is as in the text's order
    have agree : ∀ t ∈ namesOf ops.toList o, valL s0 ops.toList vals (fun i => listed.getD i false) t = (stAt s0 ops.toList vals i).get t := by
      intro t ht
      rw [stAt_get hok.one]
      by_cases hx : ∃ (j : Nat) (o' : Oper), ops.toList[j]? = some o' ∧ o'.dst = some t
      · obtain ⟨j, o', hj, hd'⟩ := hx
        rcases Nat.lt_trichotomy j i with hji | hji | hji
        · obtain ⟨e, he, he1, hb⟩ := (hok.dep j i o' o t hj ho' (by omega) hd' ht).1 hji
          have hlj := hall e he hb
          rw [he1] at hlj
          rw [valL_hit hok.one hj hlj hd', valL_hit hok.one hj (by simpa using hji) hd']
        · subst hji
          rw [valL_miss fun k ok hk hp hdk => ?_, valL_miss fun k ok hk hp hdk => ?_]
          · have := hok.one k j ok o' t hk hj hdk hd'
            subst this
            simp at hp
          · have := hok.one k j ok o' t hk hj hdk hd'
            subst this
            rw [h1] at hp; cases hp
        · obtain ⟨e, he, he1, hb⟩ := (hok.dep j i o' o t hj ho' (by omega) hd' ht).2 hji
          rw [valL_miss fun k ok hk hp hdk => ?_, valL_miss fun k ok hk hp hdk => ?_]
          · have := hok.one k j ok o' t hk hj hdk hd'
            subst this
            simp at hp; omega
          · have := hok.one k j ok o' t hk hj hdk hd'
            subst this
            have := hI.closed k o' (by rw [← Array.getElem?_toList]; exact hj) hp e he hb
            rw [he1, h1] at this; cases this
      · rw [valL_miss fun i o ho _ hd => hx ⟨i, o, ho, hd⟩, valL_miss fun i o ho _ hd => hx ⟨i, o, ho, hd⟩]
    -- the state as it is
    obtain ⟨S, hSb, hSg⟩ : ∃ S : AS, S.box = s0.box ∧ ∀ t, S.get t = valL s0 ops.toList vals (fun i => listed.getD i false) t := by
      have h := realise s0 (valL s0 ops.toList vals (fun i => listed.getD i false)) (ops.toList.filterMap (·.dst)) (fun t ht => ?_)
      · exact h
      · exact valL_miss fun j oj hj _ hdj => ht (List.mem_filterMap.2 ⟨oj, List.mem_of_getElem? hj, hdj⟩)
    obtain ⟨tok, bx, g⟩ := hI.good S hSb hSg
    obtain ⟨b, hb, hov1, hov2⟩ := hv i o ho'
    have hgs : gsem ops.toList S o = some b := by
      unfold gsem at hb ⊢
      cases hg : o.guard with
      | none => simp only [hg] at hb ⊢; exact hb
      | some jw =>
        obtain ⟨j, want⟩ := jw
        simp only [hg] at hb ⊢
        rw [Option.bind_eq_some_iff] at hb ⊢
        obtain ⟨d', hd', hb⟩ := hb
        refine ⟨d', hd', ?_⟩
        have hn : d' ∈ namesOf ops.toList o := by
          unfold namesOf
          rw [List.mem_append]
          right
          simp only [hg]
          rw [hd']
          simp
        rw [hSg, agree d' hn]; exact hb
    have hw := gsem_ok g hgs
    have hnext : ∀ s' a' w', s' = S.put o.dst ((vals[i]?).getD .dead) → R P N F w0 s' a' w' → wpAny P .any ops Q fuel (listed.setIfInBounds i true) a' w' := by
      intro s' a' w' hs' hr'
      refine ih _ a' w' ?_ ⟨by simp [hI.size], fun j oj hj hlj e he hbe => ?_, fun s'' hb'' hg'' => ?_⟩
      · have : unl ops.size (listed.setIfInBounds i true) < unl ops.size listed := by
          unfold unl
          refine filter_lt (x := i) (by simpa using hlt) (by rw [h1]; rfl) (by rw [getD_set' hls, if_pos rfl]; rfl) fun y hy => ?_
          rw [getD_set' hls] at hy
          split at hy
          · cases hy
          · exact hy
        omega
      · rw [getD_set' hls] at hlj ⊢
        split
        · rfl
        · split at hlj
          · rename_i hji
            subst hji
            rw [ho] at hj
            injection hj with hj
            subst hj
            exact hall e he hbe
          · exact hI.closed j oj hj hlj e he hbe
      · obtain ⟨tok', bx', g'⟩ := hr'
        refine ⟨tok', bx', g'.ext ?_ fun t => ?_⟩
        · rw [hb'', hs', hd]; exact hSb.symm
        · rw [hg'', hs', get_put]
          by_cases htd : o.dst = some t
          · rw [if_pos htd]
            exact valL_hit hok.one ho' (by rw [getD_set' hls, if_pos rfl]) htd
          · rw [if_neg htd, hSg]
            by_cases hx : ∃ (j : Nat) (o' : Oper), ops.toList[j]? = some o' ∧ listed.getD j false = true ∧ o'.dst = some t
            · obtain ⟨j, o', hj, hlj, hdj⟩ := hx
              exact (valL_hit (p := fun i => _) hok.one hj (by rw [getD_set' hls]; split <;> first | rfl | exact hlj) hdj).trans (valL_hit hok.one hj hlj hdj).symm
            · rw [valL_miss fun j o' hj hlj hdj => hx ⟨j, o', hj, hlj, hdj⟩, valL_miss fun j o' hj hlj hdj => ?_]
              rw [getD_set' hls] at hlj
              split at hlj
              · rename_i hji
                subst hji
                rw [ho'] at hj
                injection hj with hj
                subst hj
                exact htd hdj
              · exact hx ⟨j, o', hj, hlj, hdj⟩
    unfold wpOp
    simp only [ho]
    cases b with
    | true =>
      rw [if_pos hw]
      refine .inl (aval_sound (K := fun s' => s' = S.put o.dst ((vals[i]?).getD .dead)) hT g hdN' ?_ hnext)
      have hread : (stAt s0 ops.toList vals i).read = S.read := by
        funext x
        unfold AS.read AS.getb
        rw [stAt_box, hSb]
      have := hov1 rfl (fun v => S.put o.dst v = S.put o.dst ((vals[i]?).getD .dead)) rfl
      rw [hread] at this
      refine aval_local (fun x hx => ?_) this
      cases x with
      | tmp t =>
        show (stAt s0 ops.toList vals i).get t = S.get t
        rw [hSg, agree t]
        unfold namesOf
        rw [List.mem_append]
        left
        rw [List.mem_filterMap]
        exact ⟨.tmp t, by simpa using hx, rfl⟩
      | _ => rfl
    | false =>
      rw [if_neg (by rw [hw]; simp)]
      rw [hov2 rfl] at hnext
      exact hnext _ _ _ rfl ⟨tok, bx, g.put hdN' (.of_rep (x := .skip) (Rep.lit undef))⟩
theorem draw_sound {ops : Array Oper} {id : Nat} (hT : T.Ok P) (hm : P.follows .mixedOrders = true) (hdraw : drawOk ops.toList = true) (hdN : ∀ o ∈ ops.toList, okD N o = true) (hr : R P N F w0 s a w) (h : aops P T ops.toList ops.toList s K)
    (hK : ∀ s' a' w', K s' → R P N F w0 s' a' w' → Q .normal a' w') : (Code.region id ops true).wp P Q a w := by
  have hok := drawOk_spec hdraw
  obtain ⟨vals, hlen, _, hov, hend⟩ := aops_vals (fun o ho => by
    obtain ⟨i, hi⟩ := List.mem_iff_getElem?.1 ho
    exact hok.pure i o hi) ops.toList 0 s [] (fun j => by simp) rfl (by simp) h
  refine wp_region_any hm (draw_any hT hok hdN (fun i o ho => hov i o (Nat.zero_le _) ho) (fun a w hg => hK _ a w hend (hg _ (stAt_box _) fun _ => rfl)) ops.size _ a _ ?_ ⟨by simp, fun i o ho hl => ?_, fun s' hb hg => ?_⟩)
  · unfold unl
    exact Nat.le_trans (List.length_filter_le _ _) (by simp)
  · have hlt := (Array.getElem?_eq_some_iff.1 ho).1
    simp [Array.getD_eq_getD_getElem?, hlt] at hl
  · obtain ⟨tok, bx, g⟩ := hr
    have g1 : Good P N F w0 s a { w with drawn := w.drawn + 1 } tok bx := g.world ((Below.refl _ w).drew)
    refine ⟨tok, bx, g1.ext hb fun t => ?_⟩
    rw [hg]
    exact valL_miss fun i o ho hp => by
      have hlt := (List.getElem?_eq_some_iff.1 ho).1
      simp at hlt
      simp [Array.getD_eq_getD_getElem?, hlt] at hp
end
end Go.Proofs.Ytpemfmlonamikaa.Av
