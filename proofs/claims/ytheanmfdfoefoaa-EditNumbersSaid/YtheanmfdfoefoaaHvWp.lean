/- Abstract values over an abstract heap: whole bodies. Plain: over any program. -/
import Derived.Test.YtheanmfdfoefoaaHvSched
set_option linter.unusedVariables false
set_option linter.unusedSimpArgs false
namespace Go.Proofs.Ytheanmfdfoefoaa.Hv
open Go Go.RowKit

inductive AEx where
  | nrm
  | ext (id : Nat)
  | ret
def AEx.sq (K : AS → Prop) (Q : AEx → AS → Prop) : AEx → AS → Prop
  | .nrm, s => K s
  | e, s => Q e s
def AEx.bl (id : Nat) (Q : AEx → AS → Prop) : AEx → AS → Prop
  | .ext i, s => bif Nat.beq i id then Q .nrm s else Q (.ext i) s
  | e, s => Q e s
def AS.keep (L : List Nat) (s : AS) : AS := ⟨L.map fun k => (k, s.get k), s.heap, s.next⟩
/-- A row is read only from here on. -/
def AS.frz1 (s : AS) (id : Nat) : AS := match s.heap id with
  | some (.row _ e items) => s.chg id (some (.frz e items))
  | _ => s
/-- A loop, to be shown by what holds at each round's head. -/
def ALoop (W : AS → (AEx → AS → Prop) → Prop) (s : AS) (Q : AEx → AS → Prop) : Prop :=
  ∃ (I : Nat → AS → Prop) (L : List Nat), (∃ n, I n (s.keep L)) ∧ ∀ n s', I n s' → W s' (AEx.sq (fun s'' => ∃ m, m < n ∧ I m (s''.keep L)) Q)
inductive KF where
  | sq (y : Code)
  | bl (id : Nat)
  | lp (J : AS → Prop)
section
variable (P : Program) (T : Tbl) (A : Vis)
def cwp : Code → AS → (AEx → AS → Prop) → Prop
  | .skip, s, Q => Q .nrm s
  | .region _ ops false, s, Q => rk P T A ops.toList ops.toList s fun s' => Q .nrm (s'.keep A.keep)
  | .region id ops true, s, Q => match lk? A.sch id with
    | some sch => rkD P T A ops.toList sch s fun s' => Q .nrm (s'.keep A.keep)
    | none => False
  | .seq x y, s, Q => cwp x s (AEx.sq (fun s' => cwp y s' Q) Q)
  | .cond c x y, s, Q => match (s.eval c).bool? with
    | some true => cwp x s Q
    | some false => cwp y s Q
    | none => False
  | .block id c, s, Q => cwp c s (AEx.bl id Q)
  | .loop c, s, Q => ALoop (cwp c) s Q
  | .exit id, s, Q => Q (.ext id) s
  | .ret, s, Q => Q .ret s
  | .label _, s, Q => Q .nrm s
  | _, _, _ => False
def den (Q : AEx → AS → Prop) : List KF → AEx → AS → Prop
  | [] => Q
  | .sq y :: ks => AEx.sq (fun s' => cwp P T A y s' (den Q ks)) (den Q ks)
  | .bl id :: ks => AEx.bl id (den Q ks)
  | .lp J :: ks => AEx.sq J (den Q ks)
/-- A region's way on. -/
def ron (Q : AEx → AS → Prop) : AS → Prop := fun s' => Q .nrm (s'.keep A.keep)
def CallD (f : FuncId) (as : List AV) (s : AS) (KK : Hp → Nat → AV → Prop) : Prop :=
  (∃ res, ACalls P f (as.map (AV.view s.heap)) res ∧ KK s.heap s.next res) ∨ ∃ Post, HCalls P f as s.heap s.next Post ∧ ∀ res H' n', Post res H' n' → KK H' n' res
/-- How an operation of a schedule goes on. -/
def effK (o : Oper) (s : AS) (KK : Hp → Nat → AV → Prop) : Option AS → Prop
  | some s' => KK s'.heap s'.next (dstD o s')
  | none => match o.op with
    | .call c => match callee? s c with
      | some (f, as) => CallD P f as s KK
      | none => False
    | _ => False
def contD (all : List Oper) (env : List (Nat × AV)) (d : Option Nat) (pins : List Nat) (rr : List (Nat × List Nat × List Nat)) (K : AS → Prop) : Hp → Nat → AV → Prop :=
  fun H' n' v => pinsOk T all ((⟨env, H', n'⟩ : AS).put d v) pins ∧ rkD P T A all rr ((⟨env, H', n'⟩ : AS).put d v) K
def LoopK (c : Code) (s : AS) (Q : AEx → AS → Prop) : Prop := ALoop (cwp P T A c) s Q
def CallK (all : List Oper) (d : Option Nat) (f : FuncId) (as : List AV) (r : List Oper) (s : AS) (K : AS → Prop) : Prop :=
  (∃ res, ACalls P f (as.map (AV.view s.heap)) res ∧ rk P T A all r (s.put d res) K) ∨ ∃ Post, HCalls P f as s.heap s.next Post ∧ ∀ res H' n', Post res H' n' → rk P T A all r ((⟨s.env, H', n'⟩ : AS).put d res) K
def NextK (all : List Oper) (d : Option Nat) (id m since last : Nat) (seen : List Nat) (es : List ME) (clock : Nat) (r : List Oper) (s : AS) (K : AS → Prop) : Prop :=
  (∀ e ∈ es, e.born < since) ∧ since ≤ last ∧ (leftE es seen = [] → rk P T A all r (s.put d (.tup [.lit (.bool false)])) K) ∧ ∀ e ∈ leftE es seen, rk P T A all r ((s.chg id (some (.iter (some m) since (seen ++ [e.born]) clock))).put d (.tup [.lit (.bool true), e.key, e.val])) K
/-- How an operation goes on: what it makes of the state, a call, or a step through a map. -/
def stepK (all : List Oper) (o : Oper) (r : List Oper) (s : AS) (K : AS → Prop) : Option AS → Prop
  | some s' => rk P T A all r s' K
  | none => match o.op with
    | .call c => match callee? s c with
      | some (f, as) => CallK P T A all o.dst f as r s K
      | none => False
    | .next x false => match s.eval x with
      | .ptr id 0 => match s.heap id with
        | some (.iter (some m) since seen last) => match s.heap m with
          | some (.map es clock) => NextK P T A all o.dst id m since last seen es clock r s K
          | _ => False
        | _ => False
      | _ => False
    | _ => False
end
section
variable {P : Program} {T : Tbl} {A : Vis} {Q : AEx → AS → Prop} {K : AS → Prop} {ks : List KF} {s : AS} {all r : List Oper} {o : Oper}
theorem rk_nil : rk P T A all [] s K = K s := (rfl)
theorem rk_cons : rk P T A all (o :: r) s K = match gsem all s o with
    | some true => stepK P T A all o r s K (fop T A o s)
    | some false => rk P T A all r (s.put o.dst .skip) K
    | none => False := by
  show (match gsem all s o with
    | some true => _
    | some false => _
    | none => False) = _
  split
  · unfold stepK
    cases fop T A o s with
    | some s' => rfl
    | none =>
      simp only
      cases o.op with
      | next x b => cases b <;> rfl
      | _ => rfl
  · rfl
  · rfl
theorem cwp_skip : cwp P T A .skip s Q = Q .nrm s := (rfl)
theorem cwp_region {id : Nat} {ops : Array Oper} : cwp P T A (.region id ops false) s Q = rk P T A ops.toList ops.toList s (ron A Q) := (rfl)
theorem cwp_draw {id : Nat} {ops : Array Oper} : cwp P T A (.region id ops true) s Q = match lk? A.sch id with
    | some sch => rkD P T A ops.toList sch s (ron A Q)
    | none => False := (rfl)
theorem rkD_nil : rkD P T A all [] s K = K s := (rfl)
theorem rkD_cons {i : Nat} {pins done : List Nat} {rr : List (Nat × List Nat × List Nat)} : rkD P T A all ((i, pins, done) :: rr) s K = match all[i]? with
    | some o => bif isR T o then (match gdval T all s o with
      | some v => (match pins with
        | [] => rkD P T A all rr (s.put o.dst v) K
        | k :: ks => annOk T A all (s.put o.dst v) (k :: ks) ∧ rkD P T A all rr (s.put o.dst v) K)
      | none => False) else (match gsem all s o with
        | some true => effK P o s (contD P T A all s.env o.dst pins rr K) (fop T A o s)
        | some false => contD P T A all s.env o.dst pins rr K s.heap s.next .skip
        | none => False)
    | none => False := by
  show (match all[i]? with
    | some o => _
    | none => False) = _
  split
  · rename_i o ho
    cases isR T o with
    | true => rfl
    | false =>
      simp only [cond_false]
      unfold geff
      cases gsem all s o with
      | none => rfl
      | some b =>
        cases b with
        | false => rfl
        | true =>
          simp only
          unfold eff1 effK
          cases fop T A o s <;> rfl
  · rfl
theorem contD_at {env : List (Nat × AV)} {d : Option Nat} {pins : List Nat} {rr : List (Nat × List Nat × List Nat)} {H' : Hp} {n' : Nat} {v : AV} : contD P T A all env d pins rr K H' n' v = (pinsOk T all ((⟨env, H', n'⟩ : AS).put d v) pins ∧ rkD P T A all rr ((⟨env, H', n'⟩ : AS).put d v) K) := (rfl)
theorem callD {f : FuncId} {as : List AV} {KK : Hp → Nat → AV → Prop} {res : AV} (h : ACalls P f (as.map (AV.view s.heap)) res) (k : KK s.heap s.next res) : CallD P f as s KK := .inl ⟨res, h, k⟩
theorem callHD {f : FuncId} {as : List AV} {KK : Hp → Nat → AV → Prop} {Post : AV → Hp → Nat → Prop} (h : HCalls P f as s.heap s.next Post) (k : ∀ res H' n', Post res H' n' → KK H' n' res) : CallD P f as s KK := .inr ⟨Post, h, k⟩
theorem ron_at : ron A Q s = Q .nrm (s.keep A.keep) := (rfl)
theorem cwp_seq {x y : Code} : cwp P T A (.seq x y) s (den P T A Q ks) = cwp P T A x s (den P T A Q (.sq y :: ks)) := (rfl)
theorem cwp_block {id : Nat} {c : Code} : cwp P T A (.block id c) s (den P T A Q ks) = cwp P T A c s (den P T A Q (.bl id :: ks)) := (rfl)
theorem cwp_cond {c : Operand} {x y : Code} : cwp P T A (.cond c x y) s Q = match (s.eval c).bool? with
    | some true => cwp P T A x s Q
    | some false => cwp P T A y s Q
    | none => False := (rfl)
theorem cwp_loop {c : Code} : cwp P T A (.loop c) s Q = LoopK P T A c s Q := (rfl)
theorem cwp_exit {id : Nat} : cwp P T A (.exit id) s Q = Q (.ext id) s := (rfl)
theorem cwp_ret : cwp P T A .ret s Q = Q .ret s := (rfl)
theorem cwp_label {l : Nat} : cwp P T A (.label l) s Q = Q .nrm s := (rfl)
theorem den_nil {e : AEx} : den P T A Q [] e s = Q e s := (rfl)
theorem den_sq_nrm {y : Code} : den P T A Q (.sq y :: ks) .nrm s = cwp P T A y s (den P T A Q ks) := (rfl)
theorem den_sq_ret {y : Code} : den P T A Q (.sq y :: ks) .ret s = den P T A Q ks .ret s := (rfl)
theorem den_sq_ext {y : Code} {i : Nat} : den P T A Q (.sq y :: ks) (.ext i) s = den P T A Q ks (.ext i) s := (rfl)
theorem den_bl_nrm {id : Nat} : den P T A Q (.bl id :: ks) .nrm s = den P T A Q ks .nrm s := (rfl)
theorem den_bl_ret {id : Nat} : den P T A Q (.bl id :: ks) .ret s = den P T A Q ks .ret s := (rfl)
theorem den_bl_ext {id i : Nat} : den P T A Q (.bl id :: ks) (.ext i) s = bif Nat.beq i id then den P T A Q ks .nrm s else den P T A Q ks (.ext i) s := (rfl)
theorem den_lp_nrm {J : AS → Prop} : den P T A Q (.lp J :: ks) .nrm s = J s := (rfl)
theorem den_lp_ret {J : AS → Prop} : den P T A Q (.lp J :: ks) .ret s = den P T A Q ks .ret s := (rfl)
theorem den_lp_ext {J : AS → Prop} {i : Nat} : den P T A Q (.lp J :: ks) (.ext i) s = den P T A Q ks (.ext i) s := (rfl)
theorem loopK {c : Code} (I : Nat → AS → Prop) (n : Nat) (L : List Nat) (h0 : I n (s.keep L)) (h : ∀ n s', I n s' → cwp P T A c s' (den P T A Q (.lp (fun s'' => ∃ m, m < n ∧ I m (s''.keep L)) :: ks))) : LoopK P T A c s (den P T A Q ks) :=
  ⟨I, L, ⟨n, h0⟩, h⟩
/-- A call that changes nothing. -/
theorem callK {d : Option Nat} {f : FuncId} {as : List AV} {res : AV} (h : ACalls P f (as.map (AV.view s.heap)) res) (k : rk P T A all r (s.put d res) K) : CallK P T A all d f as r s K := .inl ⟨res, h, k⟩
/-- A call over the heap. -/
theorem callH {d : Option Nat} {f : FuncId} {as : List AV} {Post : AV → Hp → Nat → Prop} (h : HCalls P f as s.heap s.next Post) (k : ∀ res H' n', Post res H' n' → rk P T A all r ((⟨s.env, H', n'⟩ : AS).put d res) K) : CallK P T A all d f as r s K := .inr ⟨Post, h, k⟩
theorem nextK {d : Option Nat} {id m since last : Nat} {seen : List Nat} {es : List ME} {clock : Nat} (h1 : ∀ e ∈ es, e.born < since) (h2 : since ≤ last) (h3 : leftE es seen = [] → rk P T A all r (s.put d (.tup [.lit (.bool false)])) K)
    (h4 : ∀ e ∈ leftE es seen, rk P T A all r ((s.chg id (some (.iter (some m) since (seen ++ [e.born]) clock))).put d (.tup [.lit (.bool true), e.key, e.val])) K) : NextK P T A all d id m since last seen es clock r s K := ⟨h1, h2, h3, h4⟩
theorem meetG {a b : Prop} (f : a → b) (x : a) : b := f x
end
def okC (T : Tbl) (A : Vis) (N : Nat) : Code → Bool
  | .region id ops draw => ops.toList.all (okD N) && (!draw || match lk? A.sch id with | some sch => okReg T ops.toList sch | none => true)
  | .seq x y => okC T A N x && okC T A N y
  | .cond _ x y => okC T A N x && okC T A N y
  | .block _ c => okC T A N c
  | .loop c => okC T A N c
  | _ => true
def toE : AEx → Exit | .nrm => .normal | .ext i => .exit i | .ret => .ret
theorem wp_loopn {P : Program} {c : Code} {Q : Exit → Act → World → Prop} {a : Act} {w : World} (I : Nat → Act → World → Prop) (n : Nat) (h₀ : I n a w)
    (round : ∀ n a w, I n a w → c.wp P (Exit.then (fun a' w' => ∃ m, m < n ∧ I m a' w') Q) a w) : (Code.loop c).wp P Q a w := by
  intro b k cs
  have key : ∀ n a w, I n a w → ∃ e a' w', Q e a' w' ∧ Arrives P (lone (b.at a (.code c :: .inLoop c :: k)) cs w) b k cs e a' w' := by
    intro n
    induction n using Nat.strongRecOn with
    | _ n ih =>
      intro a w hI
      obtain ⟨e, a₁, w₁, hq, harr⟩ := round n a w hI b (.inLoop c :: k) cs
      cases e with
      | normal =>
        obtain ⟨m, hlt, hI₁⟩ := hq
        obtain ⟨e₂, a₂, w₂, hq₂, harr₂⟩ := ih m hlt a₁ w₁ hI₁
        exact ⟨e₂, a₂, w₂, hq₂, .of_steps (Steps.trans harr (.one step_inLoop)) harr₂⟩
      | exit id => exact ⟨_, a₁, w₁, hq, .pass (x := .inLoop c) rfl (fun _ _ => .inl (by simp)) harr⟩
      | goto l => exact ⟨_, a₁, w₁, hq, .pass (x := .inLoop c) rfl (fun _ _ => .inl (by simp)) harr⟩
      | ret => exact ⟨_, a₁, w₁, hq, .pass (x := .inLoop c) rfl (fun _ _ => .inl (by simp)) harr⟩
      | panic ch => exact ⟨_, a₁, w₁, hq, .pass (x := .inLoop c) rfl (fun _ _ => .inl (by simp)) harr⟩
      | outgrown => exact ⟨_, a₁, w₁, hq, .pass (x := .inLoop c) rfl (fun _ _ => .inl (by simp)) harr⟩
  obtain ⟨e, a', w', hq, harr⟩ := key _ a w h₀
  exact ⟨e, a', w', hq, .of_steps (.one step_loop) harr⟩
section
variable {P : Program} {T : Tbl} {A : Vis} {N : Nat} {F : Nat → Nat → Prop} {w0 w w' : World} {gb0 gb gb' : Gb} {H0 H H' : Hp} {s s' : AS} {a : Act}
theorem lkp_keep (L : List Nat) (s : AS) (t : Nat) : (s.keep L).get t = s.get t ∨ (s.keep L).get t = .dead := by
  show lkp .dead (L.map fun k => (k, s.get k)) t = s.get t ∨ lkp .dead (L.map fun k => (k, s.get k)) t = .dead
  induction L with
  | nil => exact .inr rfl
  | cons k L ih =>
    simp only [List.map_cons, lkp]
    cases hb : Nat.beq k t with
    | true =>
      have := Nat.eq_of_beq_eq_true hb
      subst this
      exact .inl rfl
    | false => exact ih
theorem R.keep (L : List Nat) (h : R P N F w0 gb0 H0 s a w) : R P N F w0 gb0 H0 (s.keep L) a w := by
  obtain ⟨gb, g⟩ := h
  refine ⟨gb, g.kept, g.ext, g.ok, g.wr0, g.x0, g.size, g.defers, fun t => ?_⟩
  rcases lkp_keep L s t with h | h <;> rw [h]
  · exact g.slots t
  · exact .dead _
theorem cwp_sound (hT : T.Ok P) (hm : P.follows .mixedOrders = true) : ∀ (c : Code), okC T A N c = true → ∀ {s : AS} {a : Act} {w : World} {Qa : AEx → AS → Prop} {Q : Exit → Act → World → Prop}, R P N F w0 gb0 H0 s a w → cwp P T A c s Qa → (∀ e s' a' w', Qa e s' → R P N F w0 gb0 H0 s' a' w' → Q (toE e) a' w') → c.wp P Q a w := by
  intro c
  induction c with
  | skip => intro _ s a w Qa Q hr h hQ; exact wp_skip (hQ .nrm _ _ _ h hr)
  | region id ops draw =>
    intro hok s a w Qa Q hr h hQ
    simp only [okC, Bool.and_eq_true] at hok
    cases draw with
    | true =>
      unfold cwp at h
      cases hl : lk? A.sch id with
      | none => rw [hl] at h; exact h.elim
      | some sch =>
        rw [hl] at h
        rw [hl] at hok
        exact draw_sound hT hm (by simpa using hok.2) (fun o ho => List.all_eq_true.1 hok.1 o ho) hr h fun s' a' w' hs hr' => hQ .nrm _ _ _ hs (hr'.keep A.keep)
    | false =>
      exact wp_region_list (rk_sound hT ops.toList (fun o ho => List.all_eq_true.1 hok.1 o ho) hr h fun s' a' w' hs hr' => hQ .nrm _ _ _ hs (hr'.keep A.keep))
  | seq x y ihx ihy =>
    intro hok s a w Qa Q hr h hQ
    simp only [okC, Bool.and_eq_true] at hok
    refine wp_seq (ihx hok.1 hr h fun e s' a' w' hs hr' => ?_)
    cases e with
    | nrm => exact ihy hok.2 hr' hs hQ
    | ext i => exact hQ (.ext i) _ _ _ hs hr'
    | ret => exact hQ .ret _ _ _ hs hr'
  | cond c x y ihx ihy =>
    intro hok s a w Qa Q hr h hQ
    simp only [okC, Bool.and_eq_true] at hok
    unfold cwp at h
    obtain ⟨gb, g⟩ := hr
    cases hb : (s.eval c).bool? with
    | none => rw [hb] at h; exact h.elim
    | some b =>
      rw [hb] at h
      have hc := rep_bool (g.eval c) hb
      cases b with
      | true => exact wp_cond_true hc (ihx hok.1 ⟨gb, g⟩ h hQ)
      | false => exact wp_cond_false hc (ihy hok.2 ⟨gb, g⟩ h hQ)
  | block id c ih =>
    intro hok s a w Qa Q hr h hQ
    refine wp_block (ih hok hr h fun e s' a' w' hs hr' => ?_)
    cases e with
    | nrm => exact hQ .nrm _ _ _ hs hr'
    | ret => exact hQ .ret _ _ _ hs hr'
    | ext i =>
      replace hs : (bif Nat.beq i id then Qa .nrm s' else Qa (.ext i) s') := hs
      show if i = id then Q .normal a' w' else Q (.exit i) a' w'
      cases hb : Nat.beq i id with
      | true =>
        rw [hb] at hs
        rw [if_pos (Nat.eq_of_beq_eq_true hb)]
        exact hQ .nrm _ _ _ hs hr'
      | false =>
        rw [hb] at hs
        rw [if_neg (fun e => by rw [e] at hb; simp at hb)]
        exact hQ (.ext i) _ _ _ hs hr'
  | loop c ih =>
    intro hok s a w Qa Q hr h hQ
    obtain ⟨I, L, ⟨n, hn⟩, hI⟩ := h
    refine wp_loopn (fun n a w => ∃ s, I n s ∧ R P N F w0 gb0 H0 s a w) n ⟨_, hn, hr.keep L⟩ fun n a w ⟨s, hs, hr⟩ => ih hok hr (hI n s hs) fun e s' a' w' hs hr' => ?_
    cases e with
    | nrm =>
      obtain ⟨m, hm, hs⟩ := hs
      exact ⟨m, hm, _, hs, hr'.keep L⟩
    | ext i => exact hQ (.ext i) _ _ _ hs hr'
    | ret => exact hQ .ret _ _ _ hs hr'
  | exit id => intro _ s a w Qa Q hr h hQ; exact wp_exit (hQ (.ext id) _ _ _ h hr)
  | ret => intro _ s a w Qa Q hr h hQ; exact wp_ret (hQ .ret _ _ _ h hr)
  | label l => intro _ s a w Qa Q hr h hQ; exact wp_label (hQ .nrm _ _ _ h hr)
  | _ => intro _ s a w Qa Q hr h hQ; exact h.elim
end
end Go.Proofs.Ytheanmfdfoefoaa.Hv
