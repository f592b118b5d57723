/- Abstract values: a function's answer from its body. Plain: over any program. -/
import Derived.Test.YtpemfmlonamikaaAvEval
import Derived.OwnWalk
namespace Go.Proofs.Ytpemfmlonamikaa.Av
open Go Go.RowKit

def rets (s : AS) (ts : List Nat) : AV := match ts with | [t] => (s.get t).view | ts => .tup (ts.map fun t => (s.get t).view)
def APost (ts : List Nat) (res : AV) : AEx → AS → Prop
  | .ext _, _ => False
  | _, s => ts.all (fun t => (s.get t).view.pure) = true ∧ rets s ts = res
def beginF : Nat → List AV → List (Nat × AV)
  | _, [] => []
  | k, a :: as => (k, a) :: beginF (k + 1) as
def begin_ (as : List AV) : AS := ⟨beginF 0 as, []⟩
theorem lkp_zip (as : List AV) : ∀ (k t : Nat), lkp AV.dead (beginF k as) t = if k ≤ t then (as[t - k]?).getD .dead else .dead := by
  induction as with
  | nil => intro k t; simp [lkp, beginF]
  | cons a as ih =>
    intro k t
    show (bif Nat.beq k t then a else lkp .dead (beginF (k + 1) as) t) = _
    rw [ih]
    cases hb : Nat.beq k t with
    | true =>
      have := Nat.eq_of_beq_eq_true hb
      subst this
      simp
    | false =>
      have hne : k ≠ t := fun e => by subst e; simp at hb
      by_cases h : k ≤ t
      · obtain ⟨j, hj⟩ : ∃ j, t - k = j + 1 := ⟨t - k - 1, by omega⟩
        rw [cond_false, if_pos (by omega), if_pos h, hj, show t - (k + 1) = j from by omega]
        rfl
      · rw [cond_false, if_neg (by omega), if_neg h]
theorem get_begin (as : List AV) (t : Nat) : (begin_ as).get t = (as[t]?).getD .dead := by
  have := lkp_zip as 0 t
  unfold begin_ AS.get
  rw [this]
  simp
section
variable {P : Program} {T : Tbl} {N : Nat} {w w' : World} {s : AS} {a : Act}
theorem rep_undo {F : Nat → Nat → Prop} {tok : Tok} {bx : Bx} {x : AV} {v : Value} (h : Rep w (Wr F tok bx) x v) : Rep w F x v := h.keep fun _ _ _ hn hc => ⟨hc, fun h => hn (.inl h)⟩
theorem acalls_of {f : FuncId} {fn : Func} {c : Code} {ts : List Nat} {as : List AV} {res : AV} (V : List Nat) (hT : T.Ok P) (hm : P.follows .mixedOrders = true) (hf : P.funcs[f]? = some fn) (hb : fn.body = some c) (hr : fn.results = (ts.map ResultVar.tmp).toArray) (hl : ts.length = 1 ∨ ts.length = 2 ∨ ts.length = 3)
    (hok : okC fn.ntmps c = true) (hF : okF P f = true) (hn : Nat.ble as.length fn.ntmps = true) (h : cwp P T V c (begin_ as) (den P T V (APost ts res) [])) : ACalls P f as res := by
  replace hn := Nat.le_of_ble_eq_true hn
  refine ⟨hF, fun w F vs hFw hlen hrep => ?_⟩
  refine calls_of_wp hf hb ?_
  have hsz : vs.toArray.size = vs.length := by simp
  have g : Good P fn.ntmps F w (begin_ as) { tmps := vs.toArray ++ Array.replicate (fn.ntmps - vs.toArray.size) undef, defers := [] } w (fun _ => none) (fun _ => none) := by
    refine ⟨Below.refl _ _, hFw, by simp; omega, rfl, fun _ _ _ h => (by cases h), fun _ _ h => (by cases h), fun _ _ _ _ _ h => (by cases h), fun _ _ _ h => (by cases h), fun _ _ _ _ h => (by cases h), fun t => ?_, fun id cs hcs => by cases hcs⟩
    rw [get_begin]
    by_cases ht : t < as.length
    · rw [List.getElem?_eq_getElem ht]
      have hv : (vs.toArray ++ Array.replicate (fn.ntmps - vs.toArray.size) undef).getD t undef = vs[t]'(by omega) := by
        rw [Array.getD_eq_getD_getElem?, Array.getElem?_append_left (by simp; omega)]
        simp [show t < vs.length by omega]
      rw [hv]
      exact .of_rep ((hrep t _ _ (List.getElem?_eq_getElem ht) (List.getElem?_eq_getElem (by omega))).keep fun b o u hn hc => ⟨hc, fun h => hn (by
        rcases h with h | ⟨_, _, h, _⟩ | ⟨_, h⟩
        · exact h
        · cases h
        · cases h)⟩)
    · rw [List.getElem?_eq_none (by omega)]
      trivial
  refine cwp_sound hT hm V c hok ⟨_, _, g⟩ h fun e s' a' w' hs hr' => ?_
  obtain ⟨tok, bx, g'⟩ := hr'
  have key : ts.all (fun t => (s'.get t).view.pure) = true ∧ rets s' ts = res → a'.defers = [] ∧ ∃ v, (results fn a'.tmps).run P w' = .ok v w' ∧ (∃ v', Ending.returned v = .returned v' ∧ Rep w' F res v' ∧ Below w.heap.size w w') := by
    rintro ⟨h1, h2⟩
    rw [List.all_eq_true] at h1
    subst h2
    refine ⟨g'.defers, ?_⟩
    match ts, hl, hr, h1 with
    | [t], _, hr, h1 => exact ⟨_, results_tmp hr _ _ _, _, rfl, rep_undo ((g'.slots t).view (h1 t (by simp))), g'.below⟩
    | [t, u], _, hr, h1 =>
      refine ⟨_, results_tmp2 hr _ _ _, _, rfl, ?_, g'.below⟩
      refine Rep.tup [(s'.get t).view, (s'.get u).view] [a'.tmps.getD t undef, a'.tmps.getD u undef] rfl fun j c v hc hv => ?_
      match j with
      | 0 => simp only [List.getElem?_cons_zero, Option.some.injEq] at hc hv; subst hc hv; exact rep_undo ((g'.slots t).view (h1 t (by simp)))
      | 1 => simp only [List.getElem?_cons_zero, List.getElem?_cons_succ, Option.some.injEq] at hc hv; subst hc hv; exact rep_undo ((g'.slots u).view (h1 u (by simp)))
      | j + 2 => simp at hc
    | [t, u, x], _, hr, h1 =>
      refine ⟨_, results_tmp3 hr _ _ _, _, rfl, ?_, g'.below⟩
      refine Rep.tup [(s'.get t).view, (s'.get u).view, (s'.get x).view] [a'.tmps.getD t undef, a'.tmps.getD u undef, a'.tmps.getD x undef] rfl fun j c v hc hv => ?_
      match j with
      | 0 => simp only [List.getElem?_cons_zero, Option.some.injEq] at hc hv; subst hc hv; exact rep_undo ((g'.slots t).view (h1 t (by simp)))
      | 1 => simp only [List.getElem?_cons_zero, List.getElem?_cons_succ, Option.some.injEq] at hc hv; subst hc hv; exact rep_undo ((g'.slots u).view (h1 u (by simp)))
      | 2 => simp only [List.getElem?_cons_zero, List.getElem?_cons_succ, Option.some.injEq] at hc hv; subst hc hv; exact rep_undo ((g'.slots x).view (h1 x (by simp)))
      | j + 3 => simp at hc
    | [], hl, _, _ => simp at hl
    | _ :: _ :: _ :: _ :: _, hl, _, _ => simp at hl
  cases e with
  | nrm => exact key hs
  | ret => exact key hs
  | ext i => exact hs.elim
end
end Go.Proofs.Ytpemfmlonamikaa.Av
