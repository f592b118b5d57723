/- Abstract values: an operation that only reads gives the value that is said of it. Plain: over any program. -/
import Derived.Test.YtheanmfdfoefoaaHvVal3
set_option linter.unusedVariables false
set_option linter.unusedSimpArgs false
namespace Go.Proofs.Ytheanmfdfoefoaa.Hv
open Go Go.RowKit

section
variable {P : Program} {T : Tbl} {N : Nat} {F : Nat → Nat → Prop} {w0 w w' : World} {gb0 gb gb' : Gb} {H0 H H' : Hp} {s : AS} {a : Act} {n n' : Nat} {W : Nat → Nat → Prop} {o : Oper}
theorem v_len {c : Call} {x : Operand} {t : TypeId} {ts : List TypeId} {m : Int} (ho : o.op = .call c) (hc : c.callee = .builtin .len) (hx : c.args.toList = [x]) (ht : c.argTypes.toList = t :: ts) (hT : T.Ok P) (hn : alen T s.heap t (s.eval x) = some m) (g : Good P N F w0 gb0 H0 s a w gb) : ∃ u, (execOp a.eval o).run P w = .ok (.value u) w ∧ Rep w (Wr F gb s.heap) gb (.lit (.int .i64 m)) u := by
  obtain ⟨callee, args, argTypes⟩ := c
  obtain rfl : args = #[x] := Array.toList_inj.1 hx
  have ht' : argTypes[0]? = some t := by rw [← Array.getElem?_toList, ht]; rfl
  simp only at hc
  subst hc
  refine ⟨.int .i64 m, ?_, .lit _⟩
  unfold execOp
  simp only [ho]
  have he := g.eval x
  have gen : ∀ I items, lk? T.sls t = some I → (s.eval x).its? s.heap = some items → (items.length : Int) = m → (do let d ← resolve a.eval { callee := .builtin .len, args := #[x], argTypes := argTypes } o.type; invoke d.target d.args : Sem Next).run P w = .ok (.value (.int .i64 m)) w := by
    intro I items hI hit hm
    subst hm
    obtain ⟨sz, A, cc, b, off, val, hi, hv, _⟩ := rep_its g.ok he hit
    simp [resolve, invoke, builtin, Builtin.len_, hv, ht', run_underlying (sls_ok hT hI).ht, goInt]
  unfold alen at hn
  split at hn
  · rename_i u hu
    rw [hu] at he
    have hv := rep_lit he
    cases hst : T.strs.elem t with
    | false => rw [hst] at hn; cases hn
    | true =>
      rw [hst] at hn
      simp only [cond_true, Option.some.injEq] at hn
      subst hn
      simp [resolve, invoke, builtin, hv, Builtin.len_, ht', run_underlying (hT.strs t (List.elem_iff.1 hst)), goInt]
  · rename_i id hu
    rw [hu] at he
    split at hn
    · rename_i I es clock hI ho'
      simp only [Option.some.injEq] at hn
      subst hn
      obtain ⟨gg, size, ents, hg, hv, hb, hl, hrep⟩ := rep_map g.ok he ho'
      obtain ⟨hu', _⟩ := hT.maps _ (lk?_mem hI)
      simp [resolve, invoke, builtin, hv, Builtin.len_, ht', run_underlying hu', Go.MapKept.run_getObj_map hb, goInt, hl]
    · cases hn
  · rename_i id sz ko len hu
    rw [Option.map_eq_some_iff] at hn
    obtain ⟨I, hI, rfl⟩ := hn
    rw [hu] at he
    have : ∃ A c, a.eval x = .slice A len c := by
      generalize a.eval x = v at he
      cases he <;> exact ⟨_, _, rfl⟩
    obtain ⟨A, c, hv⟩ := this
    simp [resolve, invoke, builtin, Builtin.len_, hv, ht', run_underlying (sls_ok hT hI).ht, goInt]
  · rw [Option.bind_eq_some_iff] at hn
    obtain ⟨I, hI, hn⟩ := hn
    rw [Option.map_eq_some_iff] at hn
    obtain ⟨items, hit, hm⟩ := hn
    exact gen I items hI hit hm
theorem v_min {c : Call} {x y : Operand} {k k' : IntKind} {m m' : Int} (ho : o.op = .call c) (hc : c.callee = .builtin .min) (hx : c.args.toList = [x, y]) (hm : (s.eval x).int? = some (k, m)) (hn : (s.eval y).int? = some (k', m')) (g : Good P N F w0 gb0 H0 s a w gb) : ∃ u, (execOp a.eval o).run P w = .ok (.value u) w ∧ Rep w (Wr F gb s.heap) gb (.lit (.int k (if m' < m then m' else m))) u := by
  obtain ⟨callee, args, argTypes⟩ := c
  obtain rfl : args = #[x, y] := Array.toList_inj.1 hx
  simp only at hc
  subst hc
  refine ⟨_, ?_, .lit _⟩
  unfold execOp
  simp [ho, resolve, invoke, builtin, rep_int (g.eval x) hm, rep_int (g.eval y) hn, Builtin.min_, Builtin.min2]
theorem v_max {c : Call} {x y : Operand} {k k' : IntKind} {m m' : Int} (ho : o.op = .call c) (hc : c.callee = .builtin .max) (hx : c.args.toList = [x, y]) (hm : (s.eval x).int? = some (k, m)) (hn : (s.eval y).int? = some (k', m')) (g : Good P N F w0 gb0 H0 s a w gb) : ∃ u, (execOp a.eval o).run P w = .ok (.value u) w ∧ Rep w (Wr F gb s.heap) gb (.lit (.int k (if m' > m then m' else m))) u := by
  obtain ⟨callee, args, argTypes⟩ := c
  obtain rfl : args = #[x, y] := Array.toList_inj.1 hx
  simp only at hc
  subst hc
  refine ⟨_, ?_, .lit _⟩
  unfold execOp
  simp [ho, resolve, invoke, builtin, rep_int (g.eval x) hm, rep_int (g.eval y) hn, Builtin.max_, Builtin.max2]
theorem find_born {ents : Array MapEntry} {es : List ME} {b : Nat} {e : ME} (hl : es.length = ents.size) (hrep : ∀ (j : Nat) (e : ME) (x : MapEntry), es[j]? = some e → ents[j]? = some x → RepE w W gb e x) (hf : es.find? (fun e => e.born == b) = some e) :
    ∃ x, ents.find? (fun x => x.born == b) = some x ∧ RepE w W gb e x := by
  have key : ∀ (es : List ME) (l : List MapEntry), es.length = l.length → (∀ (j : Nat) (e : ME) (x : MapEntry), es[j]? = some e → l[j]? = some x → RepE w W gb e x) → es.find? (fun e => e.born == b) = some e → ∃ x, l.find? (fun x => x.born == b) = some x ∧ RepE w W gb e x := by
    intro es
    induction es with
    | nil => intro l _ _ h; cases h
    | cons e0 es ih =>
      intro l hl hr h
      cases l with
      | nil => simp at hl
      | cons x l =>
        have h0 := hr 0 e0 x rfl rfl
        rw [List.find?_cons] at h ⊢
        rw [h0.born]
        cases hb : (e0.born == b) with
        | true =>
          rw [hb] at h
          simp only [Option.some.injEq] at h
          subst h
          exact ⟨x, rfl, h0⟩
        | false =>
          rw [hb] at h
          exact ih l (by simpa using hl) (fun j e x he hx => hr (j + 1) e x he hx) h
  obtain ⟨x, h1, h2⟩ := key es ents.toList (by simpa using hl) (fun j e x he hx => hrep j e x he (by simpa using hx)) hf
  exact ⟨x, by rw [← Array.find?_toList]; exact h1, h2⟩
theorem v_entry {x : Operand} {r : AV} (hop : o.op = .entry x) (h : aentry s.heap (s.eval x) = some r) (g : Good P N F w0 gb0 H0 s a w gb) : ∃ u, (execOp a.eval o).run P w = .ok (.value u) w ∧ Rep w (Wr F gb s.heap) gb r u := by
  have hx := g.eval x
  unfold aentry at h
  split at h
  · rename_i id hxe
    split at h
    · rename_i m since seen last ho
      split at h
      · rename_i es clock hm
        split at h
        · rename_i b hb
          split at h
          · rename_i hcl
            split at h
            · rename_i e he
              simp only [Option.some.injEq] at h
              subst h hcl
              rw [hxe] at hx
              generalize hv : a.eval x = v at hx
              cases hx with
              | ptr _ _ gi size hg =>
                rcases g.ok.live id _ ho with ⟨g', size', hg', mb, h1, h2⟩ | ⟨_, m', e', he'⟩
                · rw [hg] at hg'
                  injection hg' with hg'
                  injection hg' with e1 e2
                  subst e1 e2
                  cases mb with
                  | none => exact h1.elim
                  | some gm =>
                    obtain ⟨sm, hsm⟩ := h1
                    obtain ⟨gm', size', ents, hg2, hv2, hb2, hl2, hrep⟩ := rep_map g.ok (Rep.mp m gm sm hsm) hm
                    rw [hsm] at hg2
                    injection hg2 with hg2
                    injection hg2 with e1 e2
                    subst e1 e2
                    obtain ⟨xe, hxf, hre⟩ := find_born hl2 hrep he
                    refine ⟨.tuple #[xe.key, xe.val], ?_, ?_⟩
                    · unfold execOp
                      simp only [hop, hv]
                      rw [Sem.run_bind]
                      have hback : seen.toArray.back? = some b := by rw [← hb]; simp [List.getLast?_eq_getElem?, Array.back?]
                      have h2' : (getObj gi).run P w = .ok (.mapIter (some gm) since seen.toArray clock) w := by simp [getObj, Sem.run, h2]
                      simp [Instr.entry, h2', Go.MapKept.run_getObj_map hb2, hxf, hb]
                    · refine Rep.tup [e.key, e.val] [xe.key, xe.val] rfl fun j c y hc hy => ?_
                      match j with
                      | 0 => simp only [List.getElem?_cons_zero, Option.some.injEq] at hc hy; subst hc hy; exact hre.key
                      | 1 => simp only [List.getElem?_cons_succ, List.getElem?_cons_zero, Option.some.injEq] at hc hy; subst hc hy; exact hre.val
                      | j + 2 => simp at hc
                · cases he'
            · cases h
          · cases h
        · cases h
      · cases h
    · cases h
  · cases h
theorem fval_sound {v : AV} (hT : T.Ok P) (h : fval T s.heap o.op s.eval = some v) (g : Good P N F w0 gb0 H0 s a w gb) : ∃ u, (execOp a.eval o).run P w = .ok (.value u) w ∧ Rep w (Wr F gb s.heap) gb v u := by
  unfold fval at h
  split at h
  · rename_i x hop
    simp only [Option.some.injEq] at h; subst h
    exact ⟨a.eval x, by unfold execOp; simp only [hop]; rfl, g.eval x⟩
  · rename_i x hop
    simp only [Option.some.injEq] at h; subst h
    exact ⟨a.eval x, by unfold execOp; simp only [hop]; rfl, g.eval x⟩
  · rename_i c x y hop
    split at h
    · rename_i b hb
      simp only [Option.some.injEq] at h; subst h
      have hc := rep_bool (g.eval c) hb
      exact ⟨if b then a.eval x else a.eval y, by unfold execOp; simp only [hop, hc, asBool]; rfl, rep_pick (g.eval x) (g.eval y)⟩
    · cases h
  · rename_i op t x y ty hop
    split at h
    · rename_i r hr
      simp only [Option.some.injEq] at h; subst h
      refine ⟨r, ?_, .lit r⟩
      unfold execOp
      simp only [hop]
      rw [Sem.run_bind, binv_run hT (g.eval x) (g.eval y) hr x y]
      rfl
    · cases h
  · rename_i op t x hop
    split at h
    · rename_i u hu
      split at h
      · rename_i r hr
        simp only [Option.some.injEq] at h; subst h
        refine ⟨r, ?_, .lit r⟩
        unfold execOp
        simp only [hop, rep_lit? (g.eval x) hu]
        rw [Sem.run_bind, aun_run hr]
        rfl
      · cases h
    · cases h
  · rename_i t x hop
    exact v_load hop hT h g
  · rename_i t x f hop
    exact v_fld hop hT h g
  · rename_i t x i hop
    split at h
    · rename_i k m hi
      exact v_idx hop hT hi h g
    · cases h
  · rename_i t x i hop
    split at h
    · rename_i u k m hx hi
      cases ht : T.strs.elem t with
      | true => rw [ht] at h; exact v_index hop hT hx hi ht h g
      | false => rw [ht] at h; cases h
    · rename_i cs k m hx hi
      split at h
      · rename_i len e sz ha
        exact v_indexA hop hT hx hi ha h g
      · cases h
    · cases h
  · rename_i t x k ok hop
    exact v_look hop hT h g
  · rename_i t parts hop
    split at h
    · rename_i z pl hz hpl
      split at h
      · rename_i h1
        split at h
        · rename_i cs hcs
          simp only [Option.some.injEq] at h; subst h
          exact v_build hop hT hz h1 hpl hcs g
        · cases h
      · cases h
    · cases h
  · rename_i x i hop
    split at h
    · rename_i cs hx
      exact v_ext hop hx h g
    · cases h
  · rename_i t x lo hi hop
    exact v_slice hop hT h g
  · rename_i t0 t x hop
    split at h
    · rename_i k0 k k' m h1 h2 h3
      simp only [Option.some.injEq] at h; subst h
      exact v_conv hop hT h1 h2 h3 g
    · cases hb : (T.byts.elem t0 && T.strs.elem t) with
      | false => rw [hb] at h; cases h
      | true =>
        rw [hb] at h
        rw [Bool.and_eq_true] at hb
        simp only [cond_true] at h
        split at h
        · rename_i items hit
          split at h
          · rename_i l hl
            simp only [Option.some.injEq] at h; subst h
            exact v_bytes hop hT hb.1 hb.2 hit hl g
          · cases h
        · cases h
  · rename_i x hop
    cases hb : nonNil (s.eval x) with
    | true => rw [hb] at h; simp only [cond_true, Option.some.injEq] at h; subst h; exact v_nil hop hb g
    | false => rw [hb] at h; cases h
  · rename_i f first caps hop
    split at h
    · rename_i h0
      obtain rfl : first = #[] := Array.toList_inj.1 h0
      simp only [Option.some.injEq] at h; subst h
      exact v_fn hop g
    · cases h
  · rename_i x hop
    exact v_entry hop h g
  · rename_i c hop
    split at h
    · rename_i x t ts hc hx ht
      split at h
      · rename_i m hm
        simp only [Option.some.injEq] at h; subst h
        exact v_len hop hc hx ht hT hm g
      · cases h
    · rename_i x y _ hc hx
      split at h
      · rename_i k m k' m' h1 h2
        simp only [Option.some.injEq] at h; subst h
        exact v_min hop hc hx h1 h2 g
      · cases h
    · rename_i x y _ hc hx
      split at h
      · rename_i k m k' m' h1 h2
        simp only [Option.some.injEq] at h; subst h
        exact v_max hop hc hx h1 h2 g
      · cases h
    · cases h
  · cases h
end
end Go.Proofs.Ytheanmfdfoefoaa.Hv
