/- An edit out of bytes, plain: as the program takes it, and as the document does. No program in sight. -/
import Derived.Test.YtheanmfdfoefoaaEdV
set_option linter.unusedVariables false
set_option linter.unusedSimpArgs false
namespace Go.Proofs.Ytheanmfdfoefoaa
open Go Go.RowKit Hv
set_option maxRecDepth 20000
/-- A number; a signed one; a text. -/
def pN (l : List UInt8) : Option (Nat × List UInt8) := if (getB l).2.2 ≠ 0 ∨ 4611686018427387904 < (getB l).1 then none else some ((getB l).1, l.drop (getB l).2.1)
def pS (l : List UInt8) : Option (Int × List UInt8) := if (getB l).2.2 ≠ 0 then none else some (unz (getB l).1, l.drop (getB l).2.1)
def pT (l : List UInt8) : Option (ByteArray × List UInt8) := if (textG l 64).2.2 ≠ 0 then none else some (⟨(textG l 64).1.toArray⟩, l.drop (textG l 64).2.1)
def pPl (l : List UInt8) : Option (PlD × List UInt8) := match pN l with
  | none => none
  | some (a, l) => match pN l with
    | none => none
    | some (b, l) => some (⟨a, b⟩, l)
def pAd (l : List UInt8) : Option (AddD × List UInt8) := match pN l with
  | none => none
  | some (a, l) => match pN l with
    | none => none
    | some (b, l) => match pN l with
      | none => none
      | some (c, l) => match pT l with
        | none => none
        | some (s, l) => match pT l with
          | none => none
          | some (t, l) => some (⟨a, ⟨b, c, s, t⟩⟩, l)
def pMany {α : Type} (p : List UInt8 → Option (α × List UInt8)) : Nat → List α → List UInt8 → Option (List α × List UInt8)
  | 0, acc, l => some (acc, l)
  | n + 1, acc, l => match p l with
    | none => none
    | some (x, l) => pMany p n (acc ++ [x]) l
/-- Behind the tables that come. -/
def p6 (z : Int × Int × Int) (g : List PlD) (c : Nat) (acc : List AddD) (l : List UInt8) : Option (EdD × List UInt8) := match pMany pAd c acc l with
  | none => none
  | some (n, l) => some (⟨z.1, z.2.1, z.2.2, g, n⟩, l)
def p5 (z : Int × Int × Int) (g : List PlD) (l : List UInt8) : Option (EdD × List UInt8) := match pN l with
  | none => none
  | some (c, l) => p6 z g c [] l
def p4 (z : Int × Int × Int) (c : Nat) (acc : List PlD) (l : List UInt8) : Option (EdD × List UInt8) := match pMany pPl c acc l with
  | none => none
  | some (g, l) => p5 z g l
def p3 (z : Int × Int × Int) (l : List UInt8) : Option (EdD × List UInt8) := match pN l with
  | none => none
  | some (c, l) => p4 z c [] l
def p2 (q : List UInt8 → Option (Int × List UInt8)) (z : Int × Int) (l : List UInt8) : Option (EdD × List UInt8) := match q l with
  | none => none
  | some (c, l) => p3 (z.1, z.2, c) l
def p1 (q : List UInt8 → Option (Int × List UInt8)) (z : Int) (l : List UInt8) : Option (EdD × List UInt8) := match q l with
  | none => none
  | some (c, l) => p2 q (z, c) l
def p0 (q : List UInt8 → Option (Int × List UInt8)) (l : List UInt8) : Option (EdD × List UInt8) := match q l with
  | none => none
  | some (c, l) => p1 q c l
/-- A signed number as the document takes it. -/
def pR (l : List UInt8) : Option (Int × List UInt8) := match pN l with
  | none => none
  | some (n, l) => some (unz n, l)
def noE : EdD := ⟨0, 0, 0, [], []⟩
def decE (b : List UInt8) : EdD × Int := match p0 pS b with
  | some (e, []) => if rightB e = true then (e, 0) else (noE, 2)
  | _ => (noE, 2)
def decD (b : List UInt8) : EdD × Int := match p0 pR b with
  | some (e, _) => if rightB e = true ∧ edE e = b then (e, 0) else (noE, 2)
  | none => (noE, 2)
/-! ### there and back -/
theorem unz_zig {z : Int} (h : -1 ≤ z) : unz (zig z) = z := by
  unfold unz zig
  by_cases h0 : 0 ≤ z
  · rw [if_pos h0]
    have : (2 * z).toNat % 2 = 0 := by omega
    rw [this, if_neg (by decide)]
    omega
  · rw [if_neg h0]
    have : z = -1 := by omega
    subst this; rfl
theorem zig_unz {n : Nat} (h : -1 ≤ unz n) : zig (unz n) = n := by
  unfold unz at h ⊢
  unfold zig
  by_cases h0 : n % 2 = 1
  · rw [if_pos h0] at h ⊢
    rw [if_neg (by omega)]
    omega
  · rw [if_neg h0] at h ⊢
    rw [if_pos (by omega)]
    omega
theorem pN_put {n : Nat} (hn : n ≤ 4611686018427387904) (l : List UInt8) : pN (putB n ++ l) = some (n, l) := by
  unfold pN
  rw [getB_put n (by omega) l]
  simp only [List.drop_left]
  rw [if_neg (by simp; omega)]
theorem pN_inv {l l' : List UInt8} {n : Nat} (h : pN l = some (n, l')) : l = putB n ++ l' ∧ n ≤ 4611686018427387904 := by
  unfold pN at h
  split at h
  · cases h
  · rename_i hc
    have h0 : (getB l).2.2 = 0 := by
      by_cases q : (getB l).2.2 = 0
      · exact q
      · exact absurd (.inl q) hc
    obtain ⟨q, rest, e1, e2, e3⟩ := getB_inv l h0
    injection h with h
    injection h with h1 h2
    rw [e3] at h1 h2
    have h1 : q = n := h1
    subst h1
    rw [e1, List.drop_left] at h2
    have h2 : rest = l' := h2
    subst h2
    refine ⟨e1, ?_⟩
    have : ¬ 4611686018427387904 < (getB l).1 := fun q => hc (.inr q)
    rw [e3] at this
    exact Nat.le_of_not_lt this
theorem pS_put {z : Int} (h : -1 ≤ z) (h' : z < 4611686018427387904) (l : List UInt8) : pS (putB (zig z) ++ l) = some (z, l) := by
  have hz : zig z < 18446744073709551616 := by unfold zig; split <;> omega
  unfold pS
  rw [getB_put _ hz l]
  simp only [List.drop_left, ne_eq, not_true, if_false, unz_zig h]
theorem pS_inv {l l' : List UInt8} {z : Int} (h : pS l = some (z, l')) (hz : -1 ≤ z) : l = putB (zig z) ++ l' := by
  unfold pS at h
  split at h
  · cases h
  · rename_i hc
    have h0 : (getB l).2.2 = 0 := Decidable.not_not.1 hc
    obtain ⟨q, rest, e1, e2, e3⟩ := getB_inv l h0
    injection h with h
    injection h with h1 h2
    rw [e3] at h1 h2
    have h1 : unz q = z := h1
    rw [e1, List.drop_left] at h2
    have h2 : rest = l' := h2
    subst h2 h1
    rw [zig_unz hz]; exact e1
theorem pR_pS {l l' : List UInt8} {z : Int} (h : pR l = some (z, l')) : pS l = some (z, l') := by
  unfold pR pN at h
  split at h
  · cases h
  · rename_i n l1 hn
    split at hn
    · cases hn
    · rename_i hc
      injection hn with hn
      injection hn with h1 h2
      subst h1 h2
      unfold pS
      rw [if_neg fun q => hc (.inl q)]
      exact h
theorem pS_pR {l l' : List UInt8} {z : Int} (h : pS l = some (z, l')) (h1 : -1 ≤ z) (h2 : z ≤ 2305843009213693951) : pR l = some (z, l') := by
  have e := pS_inv h h1
  unfold pR
  have : pN l = some (zig z, l') := by rw [e]; exact pN_put (by unfold zig; split <;> omega) l'
  rw [this]
  simp only [unz_zig h1]
theorem pT_put {s : ByteArray} (h : s.size ≤ 64) (l : List UInt8) : pT (textB s ++ l) = some (s, l) := by
  unfold pT
  rw [textG_put s 64 h (by decide) l]
  simp only [List.drop_left, ne_eq, not_true, if_false]
theorem pT_inv {l l' : List UInt8} {s : ByteArray} (h : pT l = some (s, l')) : l = textB s ++ l' := by
  unfold pT at h
  split at h
  · cases h
  · rename_i hc
    obtain ⟨t, rest, e1, e2, e3⟩ := textG_inv l 64 (Decidable.not_not.1 hc)
    injection h with h
    injection h with h1 h2
    rw [e3] at h1 h2
    have h1 : (⟨t.toArray⟩ : ByteArray) = s := h1
    subst h1
    rw [e1, List.drop_left] at h2
    have h2 : rest = l' := h2
    subst h2
    exact e1
theorem pPl_put {p : PlD} (h : plB p = true) (l : List UInt8) : pPl (plE p ++ l) = some (p, l) := by
  obtain ⟨h1, h2, h3, h4⟩ := right_pl h
  unfold pPl plE
  rw [List.flatMap_cons, List.flatMap_cons, List.flatMap_nil, List.append_nil, List.append_assoc, pN_put (by omega)]
  simp only
  rw [pN_put (by omega)]
  simp only [h1, h2]
theorem pPl_inv {l l' : List UInt8} {p : PlD} (h : pPl l = some (p, l')) : l = plE p ++ l' := by
  unfold pPl at h
  split at h
  · cases h
  · rename_i a l1 h1
    split at h
    · cases h
    · rename_i b l2 h2
      injection h with h
      injection h with h3 h4
      subst h3 h4
      rw [(pN_inv h1).1, (pN_inv h2).1]
      unfold plE
      simp
theorem pAd_put {a : AddD} (h : addB a = true) (l : List UInt8) : pAd (adE a ++ l) = some (a, l) := by
  obtain ⟨h1, h2, h3, h4, h5, h6, h7, h8⟩ := right_ad h
  unfold pAd adE
  rw [List.flatMap_cons, List.flatMap_cons, List.flatMap_cons, List.flatMap_nil, List.append_nil]
  simp only [List.append_assoc]
  rw [pN_put (by omega)]
  simp only
  rw [pN_put (by omega)]
  simp only
  rw [pN_put (by omega)]
  simp only
  rw [pT_put h7]
  simp only
  rw [pT_put h8]
  simp only [h1, h2, h3]
theorem pAd_inv {l l' : List UInt8} {a : AddD} (h : pAd l = some (a, l')) : l = adE a ++ l' := by
  unfold pAd at h
  split at h
  · cases h
  · rename_i x l1 h1
    split at h
    · cases h
    · rename_i y l2 h2
      split at h
      · cases h
      · rename_i z l3 h3
        split at h
        · cases h
        · rename_i s l4 h4
          split at h
          · cases h
          · rename_i t l5 h5
            injection h with h
            injection h with h6 h7
            subst h6 h7
            rw [(pN_inv h1).1, (pN_inv h2).1, (pN_inv h3).1, pT_inv h4, pT_inv h5]
            unfold adE
            simp
theorem pMany_put {α : Type} {p : List UInt8 → Option (α × List UInt8)} {enc : α → List UInt8} {xs : List α} (hp : ∀ x ∈ xs, ∀ l, p (enc x ++ l) = some (x, l)) : ∀ (acc : List α) (l : List UInt8), pMany p xs.length acc (xs.flatMap enc ++ l) = some (acc ++ xs, l) := by
  induction xs with
  | nil => intro acc l; simp [pMany]
  | cons x xs ih =>
    intro acc l
    rw [List.flatMap_cons, List.append_assoc]
    show (match p (enc x ++ (xs.flatMap enc ++ l)) with | none => none | some (x, l) => pMany p xs.length (acc ++ [x]) l) = _
    rw [hp x List.mem_cons_self]
    simp only
    rw [ih (fun y hy => hp y (List.mem_cons_of_mem _ hy)), List.append_assoc]; rfl
theorem pMany_inv {α : Type} {p : List UInt8 → Option (α × List UInt8)} {enc : α → List UInt8} (hp : ∀ l l' x, p l = some (x, l') → l = enc x ++ l') : ∀ (n : Nat) (acc out : List α) (l l' : List UInt8), pMany p n acc l = some (out, l') → ∃ xs, out = acc ++ xs ∧ xs.length = n ∧ l = xs.flatMap enc ++ l'
  | 0, acc, out, l, l', h => by
    simp only [pMany, Option.some.injEq, Prod.mk.injEq] at h
    exact ⟨[], by rw [List.append_nil]; exact h.1.symm, rfl, by simpa using h.2⟩
  | n + 1, acc, out, l, l', h => by
    unfold pMany at h
    split at h
    · cases h
    · rename_i x l1 h1
      obtain ⟨xs, e1, e2, e3⟩ := pMany_inv hp n _ _ _ _ h
      refine ⟨x :: xs, by rw [e1, List.append_assoc]; rfl, by rw [List.length_cons, e2], ?_⟩
      rw [hp _ _ _ h1, e3, List.flatMap_cons, List.append_assoc]
theorem right_three {e : EdD} (h : rightB e = true) : (-1 ≤ e.log ∧ e.log ≤ 2305843009213693951) ∧ (-1 ≤ e.next ∧ e.next ≤ 2305843009213693951) ∧ (-1 ≤ e.seq ∧ e.seq ≤ 2305843009213693951) ∧ e.gone.length ≤ 1000 ∧ e.new.length ≤ 1000 ∧ (∀ p ∈ e.gone, plB p = true) ∧ ∀ a ∈ e.new, addB a = true := by
  unfold rightB at h
  simp only [Bool.and_eq_true, List.all_eq_true] at h
  obtain ⟨⟨h1, h2⟩, h3⟩ := h
  obtain ⟨⟨a1, a2, a3⟩, ⟨b1, b2, b3⟩, ⟨c1, c2⟩, d1, d2⟩ := (headB_iff e).1 h1
  exact ⟨⟨a1, by omega⟩, ⟨b1, by omega⟩, ⟨c1, by omega⟩, d1, d2, h2, h3⟩
theorem decP_put {e : EdD} (h : rightB e = true) (l : List UInt8) : p0 pS (edE e ++ l) = some (e, l) := by
  obtain ⟨⟨a1, a2⟩, ⟨b1, b2⟩, ⟨c1, c2⟩, d1, d2, h2, h3⟩ := right_three h
  unfold edE hdE zsE
  rw [List.flatMap_cons, List.flatMap_cons, List.flatMap_cons, List.flatMap_nil, List.append_nil]
  simp only [List.append_assoc]
  unfold p0
  rw [pS_put a1 (by omega)]
  simp only
  unfold p1
  rw [pS_put b1 (by omega)]
  simp only
  unfold p2
  rw [pS_put c1 (by omega)]
  simp only
  unfold p3
  rw [pN_put (by omega)]
  simp only
  unfold p4
  rw [pMany_put (fun x hx l => pPl_put (h2 x hx) l)]
  simp only
  unfold p5
  rw [pN_put (by omega)]
  simp only
  unfold p6
  rw [pMany_put (fun x hx l => pAd_put (h3 x hx) l)]
  rfl
theorem dec_cases {q : List UInt8 → Option (Int × List UInt8)} {b l : List UInt8} {e : EdD} (h : p0 q b = some (e, l)) : ∃ (l1 l2 l3 l4 l5 l6 : List UInt8), q b = some (e.log, l1) ∧ q l1 = some (e.next, l2) ∧ q l2 = some (e.seq, l3) ∧ pN l3 = some (e.gone.length, l4) ∧ l4 = e.gone.flatMap plE ++ l5 ∧ pN l5 = some (e.new.length, l6) ∧ l6 = e.new.flatMap adE ++ l ∧ p3 (e.log, e.next, e.seq) l3 = some (e, l) := by
  unfold p0 at h
  split at h
  · cases h
  · rename_i x1 l1 h1
    unfold p1 at h
    split at h
    · cases h
    · rename_i x2 l2 h2
      unfold p2 at h
      split at h
      · cases h
      · rename_i x3 l3 h3
        have h0 := h
        unfold p3 at h
        split at h
        · cases h
        · rename_i c l4 h4
          unfold p4 at h
          split at h
          · cases h
          · rename_i g l5 h5
            unfold p5 at h
            split at h
            · cases h
            · rename_i c2 l6 h6
              unfold p6 at h
              split at h
              · cases h
              · rename_i n l7 h7
                injection h with h
                injection h with e1 e2
                subst e1 e2
                obtain ⟨xs, f1, f2, f3⟩ := pMany_inv (fun _ _ _ => pPl_inv) _ _ _ _ _ h5
                obtain ⟨ys, g1, g2, g3⟩ := pMany_inv (fun _ _ _ => pAd_inv) _ _ _ _ _ h7
                rw [List.nil_append] at f1 g1
                subst f1 g1
                exact ⟨l1, l2, l3, l4, l5, l6, h1, h2, h3, by rw [f2]; exact h4, f3, by rw [g2]; exact h6, g3, h0⟩
theorem decP_inv {b l : List UInt8} {e : EdD} (h : p0 pS b = some (e, l)) (hr : rightB e = true) : b = edE e ++ l := by
  obtain ⟨⟨a1, a2⟩, ⟨b1, b2⟩, ⟨c1, c2⟩, _⟩ := right_three hr
  obtain ⟨l1, l2, l3, l4, l5, l6, h1, h2, h3, h4, h5, h6, h7, _⟩ := dec_cases h
  rw [pS_inv h1 a1, pS_inv h2 b1, pS_inv h3 c1, (pN_inv h4).1, h5, (pN_inv h6).1, h7]
  unfold edE hdE zsE
  simp
theorem dec_R {b l : List UInt8} {e : EdD} (h : p0 pR b = some (e, l)) : p0 pS b = some (e, l) := by
  obtain ⟨l1, l2, l3, l4, l5, l6, h1, h2, h3, _, _, _, _, h8⟩ := dec_cases h
  unfold p0
  rw [pR_pS h1]
  simp only
  unfold p1
  rw [pR_pS h2]
  simp only
  unfold p2
  rw [pR_pS h3]
  exact h8
theorem dec_S {b l : List UInt8} {e : EdD} (h : p0 pS b = some (e, l)) (hr : rightB e = true) : p0 pR b = some (e, l) := by
  obtain ⟨⟨a1, a2⟩, ⟨b1, b2⟩, ⟨c1, c2⟩, _⟩ := right_three hr
  obtain ⟨l1, l2, l3, l4, l5, l6, h1, h2, h3, _, _, _, _, h8⟩ := dec_cases h
  unfold p0
  rw [pS_pR h1 a1 a2]
  simp only
  unfold p1
  rw [pS_pR h2 b1 b2]
  simp only
  unfold p2
  rw [pS_pR h3 c1 c2]
  exact h8
/-- The two agree. -/
theorem dec_same (b : List UInt8) : decD b = decE b := by
  unfold decD decE
  cases hS : p0 pS b with
  | none =>
    cases hR : p0 pR b with
    | none => rfl
    | some x => obtain ⟨e, l⟩ := x; rw [dec_R hR] at hS; cases hS
  | some x =>
    obtain ⟨e, l⟩ := x
    by_cases hr : rightB e = true
    · rw [dec_S hS hr]
      have hb := decP_inv hS hr
      cases l with
      | nil =>
        rw [List.append_nil] at hb
        simp only [hr, if_true]
        rw [if_pos ⟨trivial, hb.symm⟩]
      | cons x l =>
        have : edE e ≠ b := fun q => by rw [q] at hb; have := congrArg List.length hb; simp at this
        simp only
        rw [if_neg fun q => this q.2]
    · have hne : (match p0 pR b with | some (e, _) => if rightB e = true ∧ edE e = b then (e, (0 : Int)) else (noE, 2) | none => (noE, 2)) = (noE, 2) := by
        cases hR : p0 pR b with
        | none => rfl
        | some y =>
          obtain ⟨e', l'⟩ := y
          have := dec_R hR
          rw [hS] at this
          injection this with this
          injection this with q1 q2
          subst q1
          simp only
          rw [if_neg fun q => hr q.1]
      rw [hne]
      cases l with
      | nil => simp only [hr]; rfl
      | cons x l => rfl
theorem decE_err (b : List UInt8) : (decE b).2 = 0 ∨ decE b = (noE, 2) := by
  unfold decE
  split
  · split
    · exact .inl rfl
    · exact .inr rfl
  · exact .inr rfl
theorem decE_ok {b : List UInt8} (h : (decE b).2 = 0) : rightB (decE b).1 = true ∧ edE (decE b).1 = b := by
  unfold decE at h ⊢
  split at h
  · rename_i e hp
    split at h
    · rename_i hr
      rw [if_pos hr]
      refine ⟨hr, ?_⟩
      have := decP_inv hp hr
      rw [List.append_nil] at this
      exact this.symm
    · cases h
  · cases h
theorem decE_put {e : EdD} (h : rightB e = true) : decE (edE e) = (e, 0) := by
  unfold decE
  have := decP_put h []
  rw [List.append_nil] at this
  rw [this]
  simp only [h, if_true]
theorem decE_more {e : EdD} (h : rightB e = true) (x : UInt8) : decE (edE e ++ [x]) = (noE, 2) := by
  unfold decE
  rw [decP_put h [x]]
theorem decE_less {e : EdD} (h : rightB e = true) : decE ((edE e).take ((edE e).length - 1)) = (noE, 2) := by
  rcases decE_err ((edE e).take ((edE e).length - 1)) with h0 | h0
  · exfalso
    obtain ⟨h1, h2⟩ := decE_ok h0
    have hpos : 0 < (edE e).length := by
      unfold edE
      have := putB_pos e.gone.length
      simp only [List.length_append]; omega
    obtain ⟨x, hx⟩ : ∃ x, edE e = (edE e).take ((edE e).length - 1) ++ [x] := by
      have hne : edE e ≠ [] := List.length_pos_iff.1 hpos
      exact ⟨(edE e).getLast hne, by rw [← List.dropLast_eq_take]; exact (List.dropLast_concat_getLast hne).symm⟩
    have e1 := decP_put h []
    rw [List.append_nil, hx, ← h2, decP_put h1 [x]] at e1
    injection e1 with e1
    injection e1 with _ e1
    cases e1
  · exact h0
end Go.Proofs.Ytheanmfdfoefoaa
