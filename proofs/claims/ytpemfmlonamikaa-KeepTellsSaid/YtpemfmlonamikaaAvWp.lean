/- Abstract values: whole bodies. Plain: over any program. -/
import Derived.Test.YtpemfmlonamikaaAvDraw
namespace Go.Proofs.Ytpemfmlonamikaa.Av
open Go Go.RowKit

def AS.keep (V : List Nat) (s : AS) : AS := ⟨V.map fun k => (k, s.get k), s.box⟩
inductive AEx where
  | nrm
  | ext (id : Nat)
  | ret
def AEx.sq (K : AS → Prop) (Q : AEx → AS → Prop) : AEx → AS → Prop
  | .nrm, s => K s
  | e, s => Q e s
def AEx.bl (id : Nat) (Q : AEx → AS → Prop) : AEx → AS → Prop
  | .ext i, s => bif Nat.beq i id then Q .nrm s else Q (.ext i) s
  | e, s => Q e s
/-- Some rows are read only from here on. -/
def AS.deowns (s : AS) : List Nat → AS
  | [] => s
  | i :: ids => (s.deown i).deowns ids
/-- What is known at a loop's head: some rows are read only, of the slots those of W. -/
def memN : List Nat → Nat → Bool
  | [], _ => false
  | k :: l, t => bif Nat.beq k t then true else memN l t
def boxk (L : List Nat) : List (Nat × List AV) → List (Nat × List AV)
  | [] => []
  | p :: r => bif memN L p.1 then p :: boxk L r else boxk L r
def AS.head (s : AS) (ids W : List Nat) : AS := ⟨((s.deowns ids).keep W).env, boxk W s.box⟩
/-- A loop, to be shown by what holds at each round's head. -/
def ALoop (W : AS → (AEx → AS → Prop) → Prop) (s : AS) (Q : AEx → AS → Prop) : Prop :=
  ∃ (I : Nat → AS → Prop) (L : List Nat), (∃ n ids, I n (s.head ids L)) ∧ ∀ n s', I n s' → W s' (AEx.sq (fun s'' => ∃ m ids, m < n ∧ I m (s''.head ids L)) Q)
def awp (P : Program) (T : Tbl) (V : List Nat) : Code → AS → (AEx → AS → Prop) → Prop
  | .skip, s, Q => Q .nrm s
  | .region _ ops _, s, Q => aops P T ops.toList ops.toList s fun s' => Q .nrm (s'.keep V)
  | .seq x y, s, Q => awp P T V x s (AEx.sq (fun s' => awp P T V y s' Q) Q)
  | .cond c x y, s, Q => match (s.eval c).bool? with
    | some true => awp P T V x s Q
    | some false => awp P T V y s Q
    | none => False
  | .block id c, s, Q => awp P T V c s (AEx.bl id Q)
  | .loop c, s, Q => ALoop (awp P T V c) s Q
  | .exit id, s, Q => Q (.ext id) s
  | .ret, s, Q => Q .ret s
  | .label _, s, Q => Q .nrm s
  | _, _, _ => False
def okC (N : Nat) : Code → Bool
  | .region _ ops draw => ops.toList.all (okD N) && (!draw || drawOk ops.toList)
  | .seq x y => okC N x && okC N y
  | .cond _ x y => okC N x && okC N y
  | .block _ c => okC N c
  | .loop c => okC N c
  | _ => true
theorem wp_loopn {P : Program} {c : Code} {Q : Exit → Act → World → Prop} {a : Act} {w : World} (I : Nat → Act → World → Prop) (n : Nat) (h₀ : I n a w)
    (round : ∀ n a w, I n a w → c.wp P (Exit.then (fun a' w' => ∃ m, m < n ∧ I m a' w') Q) a w) : (Code.loop c).wp P Q a w := by
  intro b k cs
  have key : ∀ n a w, I n a w → ∃ e a' w', Q e a' w' ∧ Arrives P (lone (b.at a (.code c :: .inLoop c :: k)) cs w) b k cs e a' w' := by
    intro n
    induction n using Nat.strongRecOn with
    | _ n ih =>
      intro a w hI
      obtain ⟨e, a₁, w₁, hq, harr⟩ := round n a w hI b (.inLoop c :: k) cs
      cases e with
      | normal =>
        obtain ⟨m, hlt, hI₁⟩ := hq
        obtain ⟨e₂, a₂, w₂, hq₂, harr₂⟩ := ih m hlt a₁ w₁ hI₁
        exact ⟨e₂, a₂, w₂, hq₂, .of_steps (Steps.trans harr (.one step_inLoop)) harr₂⟩
      | exit id => exact ⟨_, a₁, w₁, hq, .pass (x := .inLoop c) rfl (fun _ _ => .inl (by simp)) harr⟩
      | goto l => exact ⟨_, a₁, w₁, hq, .pass (x := .inLoop c) rfl (fun _ _ => .inl (by simp)) harr⟩
      | ret => exact ⟨_, a₁, w₁, hq, .pass (x := .inLoop c) rfl (fun _ _ => .inl (by simp)) harr⟩
      | panic ch => exact ⟨_, a₁, w₁, hq, .pass (x := .inLoop c) rfl (fun _ _ => .inl (by simp)) harr⟩
      | outgrown => exact ⟨_, a₁, w₁, hq, .pass (x := .inLoop c) rfl (fun _ _ => .inl (by simp)) harr⟩
  obtain ⟨e, a', w', hq, harr⟩ := key _ a w h₀
  exact ⟨e, a', w', hq, .of_steps (.one step_loop) harr⟩
section
variable {P : Program} {T : Tbl} {N : Nat} {F : Nat → Nat → Prop} {w0 w w' : World} {s : AS} {a : Act} {tok : Tok} {bx : Bx} {o : Oper} {K : AS → Prop} {Kc : Act → World → Prop} {Q : Exit → Act → World → Prop}
theorem lkp_keep (V : List Nat) (s : AS) (t : Nat) : (s.keep V).get t = s.get t ∨ (s.keep V).get t = .dead := by
  show lkp .dead (V.map fun k => (k, s.get k)) t = s.get t ∨ lkp .dead (V.map fun k => (k, s.get k)) t = .dead
  induction V with
  | nil => exact .inr rfl
  | cons k V ih =>
    simp only [List.map_cons, lkp]
    cases hb : Nat.beq k t with
    | true =>
      have := Nat.eq_of_beq_eq_true hb
      subst this
      exact .inl rfl
    | false => exact ih
theorem R.keep (V : List Nat) (h : R P N F w0 s a w) : R P N F w0 (s.keep V) a w := by
  obtain ⟨tok, bx, g⟩ := h
  refine ⟨tok, bx, { g with slots := fun t => ?_, boxes := g.boxes }⟩
  rcases lkp_keep V s t with h | h <;> rw [h]
  · exact g.slots t
  · trivial
theorem R.deowns (h : R P N F w0 s a w) (ids : List Nat) : R P N F w0 (s.deowns ids) a w := by
  induction ids generalizing s with
  | nil => exact h
  | cons i ids ih =>
    obtain ⟨tok, bx, g⟩ := h
    exact ih ⟨tok, bx, g.deown i⟩
theorem getb_boxk (L : List Nat) (id : Nat) (b : List (Nat × List AV)) : lkp none ((boxk L b).map fun p => (p.1, some p.2)) id = lkp none (b.map fun p => (p.1, some p.2)) id ∨ lkp none ((boxk L b).map fun p => (p.1, some p.2)) id = none := by
  by_cases hm : memN L id = true
  · left
    induction b with
    | nil => rfl
    | cons p b ih =>
      unfold boxk
      cases hp : memN L p.1 with
      | true =>
        simp only [cond_true, List.map_cons, lkp]
        rw [ih]
      | false =>
        simp only [cond_false, List.map_cons, lkp]
        have : Nat.beq p.1 id = false := by
          rw [← Bool.not_eq_true]; intro h
          rw [Nat.eq_of_beq_eq_true h, hm] at hp; cases hp
        rw [this, cond_false]; exact ih
  · right
    induction b with
    | nil => rfl
    | cons p b ih =>
      unfold boxk
      cases hp : memN L p.1 with
      | true =>
        simp only [cond_true, List.map_cons, lkp]
        have : Nat.beq p.1 id = false := by
          rw [← Bool.not_eq_true]; intro h
          rw [Nat.eq_of_beq_eq_true h] at hp; exact hm hp
        rw [this, cond_false]; exact ih
      | false => exact ih
theorem R.head (h : R P N F w0 s a w) (ids L : List Nat) : R P N F w0 (s.head ids L) a w := by
  have hb : (s.deowns ids).box = s.box := by
    induction ids generalizing s with
    | nil => rfl
    | cons i ids ih =>
      obtain ⟨tok, bx, g⟩ := h
      exact ih ⟨tok, bx, g.deown i⟩
  obtain ⟨tok, bx, g⟩ := (h.deowns ids).keep L
  refine ⟨tok, bx, { g with slots := g.slots, boxes := fun id cs hcs => ?_ }⟩
  rcases getb_boxk L id s.box with he | he
  · refine g.boxes id cs ?_
    have h1 : (s.head ids L).getb id = lkp none (s.box.map fun p => (p.1, some p.2)) id := he
    have h2 : ((s.deowns ids).keep L).getb id = lkp none ((s.deowns ids).box.map fun p => (p.1, some p.2)) id := rfl
    rw [h2, hb, ← h1]; exact hcs
  · have h1 : (s.head ids L).getb id = none := he
    rw [h1] at hcs; cases hcs
def toE : AEx → Exit | .nrm => .normal | .ext i => .exit i | .ret => .ret
theorem awp_sound (hT : T.Ok P) (hm : P.follows .mixedOrders = true) (V : List Nat) : ∀ (c : Code), okC N c = true → ∀ {s : AS} {a : Act} {w : World} {Qa : AEx → AS → Prop} {Q : Exit → Act → World → Prop}, R P N F w0 s a w → awp P T V c s Qa → (∀ e s' a' w', Qa e s' → R P N F w0 s' a' w' → Q (toE e) a' w') → c.wp P Q a w := by
  intro c
  induction c with
  | skip => intro _ s a w Qa Q hr h hQ; exact wp_skip (hQ .nrm _ _ _ h hr)
  | region id ops draw =>
    intro hok s a w Qa Q hr h hQ
    simp only [okC, Bool.and_eq_true] at hok
    cases draw with
    | true => exact draw_sound hT hm hok.2 (fun o ho => List.all_eq_true.1 hok.1 o ho) hr h fun s' a' w' hs hr' => hQ .nrm _ _ _ hs (hr'.keep V)
    | false =>
      exact wp_region_list (aops_sound hT ops.toList (fun o ho => List.all_eq_true.1 hok.1 o ho) hr h fun s' a' w' hs hr' => hQ .nrm _ _ _ hs (hr'.keep V))
  | seq x y ihx ihy =>
    intro hok s a w Qa Q hr h hQ
    simp only [okC, Bool.and_eq_true] at hok
    refine wp_seq (ihx hok.1 hr h fun e s' a' w' hs hr' => ?_)
    cases e with
    | nrm => exact ihy hok.2 hr' hs hQ
    | ext i => exact hQ (.ext i) _ _ _ hs hr'
    | ret => exact hQ .ret _ _ _ hs hr'
  | cond c x y ihx ihy =>
    intro hok s a w Qa Q hr h hQ
    simp only [okC, Bool.and_eq_true] at hok
    unfold awp at h
    obtain ⟨tok, bx, g⟩ := hr
    cases hb : (s.eval c).bool? with
    | none => rw [hb] at h; exact h.elim
    | some b =>
      rw [hb] at h
      have hc := rep_bool (g.eval c) hb
      cases b with
      | true => exact wp_cond_true hc (ihx hok.1 ⟨tok, bx, g⟩ h hQ)
      | false => exact wp_cond_false hc (ihy hok.2 ⟨tok, bx, g⟩ h hQ)
  | block id c ih =>
    intro hok s a w Qa Q hr h hQ
    refine wp_block (ih hok hr h fun e s' a' w' hs hr' => ?_)
    cases e with
    | nrm => exact hQ .nrm _ _ _ hs hr'
    | ret => exact hQ .ret _ _ _ hs hr'
    | ext i =>
      replace hs : (bif Nat.beq i id then Qa .nrm s' else Qa (.ext i) s') := hs
      show if i = id then Q .normal a' w' else Q (.exit i) a' w'
      cases hb : Nat.beq i id with
      | true =>
        rw [hb] at hs
        rw [if_pos (Nat.eq_of_beq_eq_true hb)]
        exact hQ .nrm _ _ _ hs hr'
      | false =>
        rw [hb] at hs
        rw [if_neg (fun e => by rw [e] at hb; simp at hb)]
        exact hQ (.ext i) _ _ _ hs hr'
  | loop c ih =>
    intro hok s a w Qa Q hr h hQ
    obtain ⟨I, L, ⟨n, ids, hn⟩, hI⟩ := h
    refine wp_loopn (fun n a w => ∃ s, I n s ∧ R P N F w0 s a w) n ⟨_, hn, hr.head ids L⟩ fun n a w ⟨s, hs, hr⟩ => ih hok hr (hI n s hs) fun e s' a' w' hs hr' => ?_
    cases e with
    | nrm =>
      obtain ⟨m, ids, hm, hs⟩ := hs
      exact ⟨m, hm, _, hs, hr'.head ids L⟩
    | ext i => exact hQ (.ext i) _ _ _ hs hr'
    | ret => exact hQ .ret _ _ _ hs hr'
  | exit id => intro _ s a w Qa Q hr h hQ; exact wp_exit (hQ (.ext id) _ _ _ h hr)
  | ret => intro _ s a w Qa Q hr h hQ; exact wp_ret (hQ .ret _ _ _ h hr)
  | label l => intro _ s a w Qa Q hr h hQ; exact wp_label (hQ .nrm _ _ _ h hr)
  | _ => intro _ s a w Qa Q hr h hQ; exact h.elim
end
end Go.Proofs.Ytpemfmlonamikaa.Av
