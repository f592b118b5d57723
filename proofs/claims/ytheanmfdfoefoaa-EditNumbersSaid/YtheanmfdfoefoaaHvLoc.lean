/- Abstract values: what an operation does depends on what it names alone. Plain: over any program. -/
import Derived.Test.YtheanmfdfoefoaaHvDraw
set_option linter.unusedVariables false
set_option linter.unusedSimpArgs false
namespace Go.Proofs.Ytheanmfdfoefoaa.Hv
open Go Go.RowKit

section
variable {P : Program} {T : Tbl} {A : Vis} {H : Hp} {n : Nat} {o : Oper} {e e1 : List (Nat × AV)}
/-- A state with another's slots. -/
def AS.re (e1 : List (Nat × AV)) (o : Oper) (r : AS) : AS := (⟨e1, r.heap, r.next⟩ : AS).put o.dst (dstD o r)
theorem re_put {v : AV} {H' : Hp} {n' : Nat} : AS.re e1 o ((⟨e, H', n'⟩ : AS).put o.dst v) = (⟨e1, H', n'⟩ : AS).put o.dst v := by
  unfold AS.re dstD
  cases hd : o.dst with
  | none => rfl
  | some d =>
    have h1 : ((⟨e, H', n'⟩ : AS).put (some d) v).get d = v := by rw [get_put, if_pos rfl]
    simp only [h1]
    rfl
theorem re_set {d : Nat} {v : AV} {H' : Hp} {n' : Nat} (hd : o.dst = some d) : AS.re e1 o ((⟨e, H', n'⟩ : AS).set d v) = (⟨e1, H', n'⟩ : AS).set d v := by
  have := re_put (o := o) (e := e) (e1 := e1) (v := v) (H' := H') (n' := n')
  rw [hd] at this
  exact this
theorem feff_re (hρ : ∀ x ∈ o.op.operands, (⟨e1, H, n⟩ : AS).eval x = (⟨e, H, n⟩ : AS).eval x) : feff T A o ⟨e1, H, n⟩ = (feff T A o ⟨e, H, n⟩).map (AS.re e1 o) := by
  cases hop : o.op with
  | box t x =>
    have hx := hρ x (by rw [hop]; simp [Op.operands])
    simp only [feff, hop, hx]
    split
    · rename_i d hd
      split
      · rw [Option.map_some]; exact congrArg some (re_set hd).symm
      · rfl
    · rfl
  | alloc t =>
    simp only [feff, hop]
    split
    · rename_i d z hd hz
      split
      · rw [Option.map_some]; exact congrArg some (re_set hd).symm
      · rfl
    · rfl
  | buildSlice t m parts =>
    have hb : bsItems (⟨e1, H, n⟩ : AS).eval parts.toList = bsItems (⟨e, H, n⟩ : AS).eval parts.toList := bs_local fun p hp => hρ p.2 (by rw [hop]; simp only [Op.operands]; simpa using ⟨p.1, by simpa using hp⟩)
    simp only [feff, hop, hb]
    split
    · rename_i d I hd hI
      split
      · rw [Option.map_some]; exact congrArg some (re_set hd).symm
      · rfl
    · rfl
  | makeSlice t l c =>
    have hl := hρ l (by rw [hop]; simp [Op.operands])
    have hc := hρ c (by rw [hop]; simp [Op.operands])
    simp only [feff, hop, hl, hc]
    split
    · rename_i d I k1 l1 k2 c1 hd hI h3 h4
      split
      · rw [Option.map_some]; exact congrArg some (re_set hd).symm
      · rfl
    · rfl
  | makeMap t r =>
    cases r with
    | none =>
      simp only [feff, hop]
      split
      · rename_i d I hd hI
        rw [Option.map_some]; exact congrArg some (re_set hd).symm
      · rfl
    | some r => simp only [feff, hop]; rfl
  | range t x =>
    have hx := hρ x (by rw [hop]; simp [Op.operands])
    simp only [feff, hop, hx]
    split
    · rename_i d I id hd hI h3
      split
      · rw [Option.map_some]; exact congrArg some (re_set hd).symm
      · rfl
    · rfl
  | convert t0 t x =>
    have hx := hρ x (by rw [hop]; simp [Op.operands])
    simp only [feff, hop, hx]
    split
    · rename_i d u I hd hI h3
      cases (T.strs.elem t0 && T.byts.elem t && Nat.ble u.size 140737488355328) with
      | true => simp only [cond_true]; rw [Option.map_some]; exact congrArg some (re_set hd).symm
      | false => rfl
    · rfl
  | store t p x =>
    have hp := hρ p (by rw [hop]; simp [Op.operands])
    have hx := hρ x (by rw [hop]; simp [Op.operands])
    simp only [feff, hop, hx, hp]
    split
    · split
      · split
        · rw [Option.map_some]; exact congrArg some (re_put).symm
        · rfl
      · rfl
    · split
      · split
        · split
          · rw [Option.map_some]; exact congrArg some (re_put).symm
          · rfl
        · rfl
      · rfl
    · rfl
  | mapUpdate t m k x =>
    have hm := hρ m (by rw [hop]; simp [Op.operands])
    have hk := hρ k (by rw [hop]; simp [Op.operands])
    have hx := hρ x (by rw [hop]; simp [Op.operands])
    simp only [feff, hop, hx, hm, hk]
    split
    · rename_i I id hI hid
      cases keyKind T I.key ((⟨e, H, n⟩ : AS).eval k) with
      | false => rfl
      | true =>
        simp only [cond_true]
        split
        · split
          · split
            · rw [Option.map_some]; exact congrArg some (re_put).symm
            · rfl
          · rw [Option.map_some]; exact congrArg some (re_put).symm
          · rfl
        · rfl
    · rfl
  | call c =>
    have hargs : ∀ x ∈ c.args.toList, (⟨e1, H, n⟩ : AS).eval x = (⟨e, H, n⟩ : AS).eval x := fun x hx => hρ x (by
      rw [hop]
      show x ∈ c.operands
      unfold Call.operands
      rw [Array.mem_append]
      exact .inr (by simpa using hx))
    simp only [feff, hop]
    generalize hl2 : c.argTypes.toList = l2
    generalize hl1 : c.args.toList = l1 at hargs ⊢
    cases hc : c.callee with
    | builtin b =>
      cases b with
      | delete =>
        match l1, l2, hargs with
        | [m, k], t :: ts, hargs =>
          simp only [hargs m (by simp), hargs k (by simp)]
          split
          · rename_i I id hI hid
            cases keyKind T I.key ((⟨e, H, n⟩ : AS).eval k) with
            | false => rfl
            | true =>
              simp only [cond_true]
              split
              · split
                · rw [Option.map_some]; exact congrArg some (re_put).symm
                · rw [Option.map_some]; exact congrArg some (re_put).symm
                · rfl
              · rfl
          · rfl
        | [], _, _ => rfl
        | [_], _, _ => rfl
        | [_, _], [], _ => rfl
        | _ :: _ :: _ :: _, _, _ => rfl
      | _ => rfl
    | _ => rfl
  | _ => simp only [feff, hop]; rfl
theorem its_env {x : AV} : True := trivial
theorem anews_env (t : Nat) (y : AV) : anews T H t y = anews T H t y := rfl
theorem fapp_re {c : Call} (hargs : ∀ x ∈ c.args.toList, (⟨e1, H, n⟩ : AS).eval x = (⟨e, H, n⟩ : AS).eval x) : fapp T A c o.dst ⟨e1, H, n⟩ = (fapp T A c o.dst ⟨e, H, n⟩).map (AS.re e1 o) := by
  unfold fapp
  generalize hl2 : c.argTypes.toList = l2
  generalize hl1 : c.args.toList = l1 at hargs ⊢
  cases hc : c.callee with
  | builtin b =>
    cases b with
    | append =>
      match l1, l2, hargs with
      | [x, y], [t, tx], hargs =>
        cases hd : o.dst with
        | none => rfl
        | some d =>
          simp only [hargs x (by simp), hargs y (by simp)]
          split
          · split
            · split
              · split
                · rw [Option.map_some]; exact congrArg some (re_set hd).symm
                · rfl
              · rfl
            · rename_i v _
              cases isNilV v with
              | false => rfl
              | true =>
                simp only [cond_true]
                split
                · rw [Option.map_some]; exact congrArg some (re_set hd).symm
                · rfl
            · rfl
          · rfl
      | [], _, _ => rfl
      | [_], _, _ => rfl
      | [_, _], [], _ => rfl
      | [_, _], [_], _ => rfl
      | [_, _], _ :: _ :: _ :: _, _ => rfl
      | _ :: _ :: _ :: _, _, _ => rfl
    | _ => rfl
  | _ => rfl
theorem acutM_re (hρ : ∀ x ∈ o.op.operands, (⟨e1, H, n⟩ : AS).eval x = (⟨e, H, n⟩ : AS).eval x) : acutM A T o ⟨e1, H, n⟩ = (acutM A T o ⟨e, H, n⟩).map (AS.re e1 o) := by
  unfold acutM
  split
  · rename_i t x hi mx d hop hd
    have hx := hρ x (by rw [hop]; simp [Op.operands])
    have hh := hρ hi (by rw [hop]; simp [Op.operands])
    cases A.cut.elem d with
    | false => rfl
    | true =>
      simp only [cond_true, hx, hh]
      split
      · split
        · split
          · rw [Option.map_some]; exact congrArg some (re_set hd).symm
          · rfl
        · rfl
      · rfl
  · rfl
theorem fop_re (hρ : ∀ x ∈ o.op.operands, (⟨e1, H, n⟩ : AS).eval x = (⟨e, H, n⟩ : AS).eval x) : fop T A o ⟨e1, H, n⟩ = (fop T A o ⟨e, H, n⟩).map (AS.re e1 o) := by
  have other : (∀ x, o.op ≠ .assign x) → fop T A o ⟨e1, H, n⟩ = (fop T A o ⟨e, H, n⟩).map (AS.re e1 o) := by
    intro hna
    have key : ∀ e', fop T A o ⟨e', H, n⟩ = match fval T H o.op (⟨e', H, n⟩ : AS).eval with
      | some v => match acutM A T o ⟨e', H, n⟩ with
        | some s' => some s'
        | none => some ((⟨e', H, n⟩ : AS).put o.dst v)
      | none => match feff T A o ⟨e', H, n⟩ with
        | some s' => some s'
        | none => match o.op with
          | .call c => fapp T A c o.dst ⟨e', H, n⟩
          | _ => none := by
      intro e'
      unfold fop
      cases hop : o.op <;> first | rfl | exact absurd hop (hna _)
    rw [key e1, key e, fval_local hρ, acutM_re hρ, feff_re hρ]
    cases fval T H o.op (⟨e, H, n⟩ : AS).eval with
    | some v =>
      simp only
      cases acutM A T o ⟨e, H, n⟩ with
      | some r => rfl
      | none => simp only [Option.map_none, Option.map_some]; exact congrArg some (re_put).symm
    | none =>
      simp only
      cases feff T A o ⟨e, H, n⟩ with
      | some r => rfl
      | none =>
        simp only [Option.map_none]
        cases hop : o.op with
        | call c =>
          exact fapp_re fun x hx => hρ x (by
            rw [hop]
            show x ∈ c.operands
            unfold Call.operands
            rw [Array.mem_append]
            exact .inr (by simpa using hx))
        | _ => rfl
  cases hop : o.op with
  | assign x =>
    have hx := hρ x (by rw [hop]; simp [Op.operands])
    simp only [fop, hop, hx]
    cases hi : (bif isNilO x then lk? T.sls o.type else none) with
    | none =>
      cases hd : o.dst with
      | none => simp only [Option.map_some, AS.re, hd]; rfl
      | some d =>
        simp only [Option.map_some]
        have := re_set (o := o) (e := e) (e1 := e1) (d := d) (v := (⟨e, H, n⟩ : AS).eval x) (H' := H) (n' := n) hd
        exact congrArg some this.symm
    | some I =>
      cases hd : o.dst with
      | none => simp only [Option.map_some, AS.re, hd]; rfl
      | some d =>
        simp only [Option.map_some]
        exact congrArg some (re_set hd).symm
  | _ => exact other (fun x hx => by rw [hop] at hx; cases hx)
end
end Go.Proofs.Ytheanmfdfoefoaa.Hv
