/- Abstract values: calls, steps through maps, regions in the text's order. Plain: over any program. -/
import Derived.Test.YtheanmfdfoefoaaHvApp
import Derived.Maps.RangeRun
set_option linter.unusedVariables false
set_option linter.unusedSimpArgs false
namespace Go.Proofs.Ytheanmfdfoefoaa.Hv
open Go Go.RowKit

def okF (P : Program) (f : FuncId) : Bool := match P.funcs[f]? with | some fn => !(fn.name == "runtime.NumGoroutine") && fn.body.isSome | none => false
/-- A function's answer, whatever the world, whatever is shut: it changes nothing that was there. -/
def ACalls (P : Program) (f : FuncId) (as : List AV) (res : AV) : Prop :=
  okF P f = true ∧ ∀ (w : World) (W : Nat → Nat → Prop) (gb : Gb) (vs : List Value), (∀ b o, W b o → b < w.heap.size) → as.length = vs.length → (∀ (j : Nat) (x : AV) (v : Value), as[j]? = some x → vs[j]? = some v → Rep w W gb x v) →
    Calls P f vs.toArray w fun e w' => ∃ v, e = .returned v ∧ Rep w' W gb res v ∧ Below w.heap.size w w'
/-- What a call makes of a heap. -/
structure Done (P : Program) (F : Nat → Nat → Prop) (gb : Gb) (H : Hp) (w : World) (Post : AV → Hp → Nat → Prop) (e : Ending) (w' : World) (v : Value) (r : AV) (H' : Hp) (n' : Nat) (gb' : Gb) : Prop where
  ret : e = .returned v
  post : Post r H' n'
  kept : Kept (Xh gb H) (Wh gb H) w w'
  ext : Ext gb gb'
  ok : HeapOk P w' F gb' H' n'
  wr : ∀ b o, b < w.heap.size → Wh gb' H' b o → Wh gb H b o
  x : ∀ b, b < w.heap.size → Xh gb' H' b → Xh gb H b
  rep : Rep w' (Wr F gb' H') gb' r v
/-- A function over a heap: what it answers and makes of the heap. -/
def HCalls (P : Program) (f : FuncId) (as : List AV) (H : Hp) (n : Nat) (Post : AV → Hp → Nat → Prop) : Prop :=
  okF P f = true ∧ ∀ (w : World) (F : Nat → Nat → Prop) (gb : Gb) (vs : List Value), HeapOk P w F gb H n → as.length = vs.length → (∀ (j : Nat) (x : AV) (v : Value), as[j]? = some x → vs[j]? = some v → Rep w (Wr F gb H) gb x v) →
    Calls P f vs.toArray w fun e w' => ∃ v r H' n' gb', Done P F gb H w Post e w' v r H' n' gb'
theorem HCalls.mono {P : Program} {f : FuncId} {as : List AV} {H : Hp} {n : Nat} {Post Post' : AV → Hp → Nat → Prop} (h : HCalls P f as H n Post) (hp : ∀ r H' n', Post r H' n' → Post' r H' n') : HCalls P f as H n Post' :=
  ⟨h.1, fun w F gb vs hok hl hr => (h.2 w F gb vs hok hl hr).mono fun _ _ ⟨v, r, H', n', gb', hd⟩ => ⟨v, r, H', n', gb', { hd with post := hp _ _ _ hd.post }⟩⟩

/-- What stands where an operation was left out. -/
def AV.skip : AV := .lit (.tuple #[])
def AV.said? (x : AV) (want : Bool) : Option Bool := match x with
  | .lit (.bool b) => some (b == want)
  | .lit (.tuple _) => some false
  | _ => none
def gsem (all : List Oper) (s : AS) (o : Oper) : Option Bool :=
  match o.guard with
  | none => some true
  | some (j, want) => ((all[j]?).bind (·.dst)).bind fun d => (s.get d).said? want
def okD (N : Nat) (o : Oper) : Bool := match o.dst with | none => true | some k => Nat.blt k N
def callee? (s : AS) (c : Call) : Option (FuncId × List AV) := match c.callee with
  | .value x => match s.eval x with
    | .fn f caps => some (f, c.args.toList.map s.eval ++ caps)
    | _ => none
  | _ => none
/-- A cut of a row that may be written in shortens it. -/
def acutM (A : Vis) (T : Tbl) (o : Oper) (s : AS) : Option AS :=
  match o.op, o.dst with
  | .slice t x none (some hi) _, some d => bif A.cut.elem d then (match lk? T.sls t, s.eval x, (s.eval hi).int? with
    | some I, .rw id sz 0 len, some (_, h) => match s.heap id with
      | some (.row true e items) => if (0 ≤ h ∧ h ≤ len ∧ len ≤ items.length) ∧ sz = I.size then some ((s.chg id (some (.row true e (items.take h.toNat)))).set d (.rw id sz 0 h.toNat)) else none
      | _ => none
    | _, _, _ => none) else none
  | _, _ => none
/-- The state behind an operation, where it is a function of the state ahead. -/
def fop (T : Tbl) (A : Vis) (o : Oper) (s : AS) : Option AS :=
  match o.op with
  | .assign x => match o.dst, (bif isNilO x then lk? T.sls o.type else none) with
    | some d, some I => some ((s.fresh (.row (A.muts.elem d) I.e [])).set d (.rw s.next I.size 0 0))
    | d, _ => some (s.put d (s.eval x))
  | op => match fval T s.heap op s.eval with
    | some v => match acutM A T o s with
      | some s' => some s'
      | none => some (s.put o.dst v)
    | none => match feff T A o s with
      | some s' => some s'
      | none => match op with
        | .call c => fapp T A c o.dst s
        | _ => none
/-- The entries that a walk through a map has still ahead. -/
def leftE (es : List ME) (seen : List Nat) : List ME := es.filter fun e => !seen.contains e.born
section
variable (P : Program) (T : Tbl) (A : Vis)
def rk (all : List Oper) : List Oper → AS → (AS → Prop) → Prop
  | [], s, K => K s
  | o :: r, s, K => match gsem all s o with
    | some true => match fop T A o s with
      | some s' => rk all r s' K
      | none => match o.op with
        | .call c => match callee? s c with
          | some (f, as) => (∃ res, ACalls P f (as.map (AV.view s.heap)) res ∧ rk all r (s.put o.dst res) K) ∨ ∃ Post, HCalls P f as s.heap s.next Post ∧ ∀ res H' n', Post res H' n' → rk all r ((⟨s.env, H', n'⟩ : AS).put o.dst res) K
          | none => False
        | .next x false => match s.eval x with
          | .ptr id 0 => match s.heap id with
            | some (.iter (some m) since seen last) => match s.heap m with
              | some (.map es clock) => (∀ e ∈ es, e.born < since) ∧ since ≤ last ∧ (leftE es seen = [] → rk all r (s.put o.dst (.tup [.lit (.bool false)])) K) ∧ ∀ e ∈ leftE es seen, rk all r ((s.chg id (some (.iter (some m) since (seen ++ [e.born]) clock))).put o.dst (.tup [.lit (.bool true), e.key, e.val])) K
              | _ => False
            | _ => False
          | _ => False
        | _ => False
    | some false => rk all r (s.put o.dst .skip) K
    | none => False
end
section
variable {P : Program} {T : Tbl} {A : Vis} {N : Nat} {F : Nat → Nat → Prop} {w0 w w' : World} {gb0 gb gb' : Gb} {H0 H H' : Hp} {s s' : AS} {a : Act} {n n' : Nat} {W : Nat → Nat → Prop} {o : Oper} {K : Act → World → Prop} {Q : Exit → Act → World → Prop}
theorem s_cut {hd : ∀ k, o.dst = some k → k < N} (hT : T.Ok P) (h : acutM A T o s = some s') {v : AV} (hv : fval T s.heap o.op s.eval = some v) (g : Good P N F w0 gb0 H0 s a w gb) (hK : ∀ a' w', R P N F w0 gb0 H0 s' a' w' → K a' w') : o.wp P a w K Q := by
  obtain ⟨u, hrun, hrep⟩ := fval_sound hT hv g
  unfold acutM at h
  split at h
  · rename_i t x hi mx d hop hod
    cases hc : A.cut.elem d with
    | false => rw [hc] at h; cases h
    | true =>
      rw [hc] at h
      simp only [cond_true] at h
      split at h
      · rename_i I id sz len k hh hI hx hhi
        split at h
        · rename_i e items ho
          split at h
          · rename_i hb
            obtain ⟨⟨b1, b2, b3⟩, hsz⟩ := hb
            simp only [Option.some.injEq] at h
            subst h
            have hv' : v = .rw id sz 0 hh.toNat := by
              rw [hop] at hv
              unfold fval at hv
              cases mx with
              | some m => cases hv
              | none =>
                have hnum : (s.eval hi).num? = some hh := by
                  unfold AV.int? at hhi
                  split at hhi
                  · rename_i q; simp only [Option.some.injEq, Prod.mk.injEq] at hhi; unfold AV.num?; rw [q, hhi.2]
                  · cases hhi
                simp only [acut, hx, hI, Option.map_none, Option.map_some, onum, Option.bind_some, hnum, acutR] at hv
                rw [if_pos ⟨⟨Int.le_refl _, b1, b2⟩, hsz⟩] at hv
                simp only [Option.some.injEq] at hv
                rw [← hv]
                simp
            subst hv'
            refine wp_val hrun (hK _ _ ⟨gb, ?_⟩)
            have hlive : ∃ gg size, gb id = some (gg, size) ∧ ObjRep P w (Wr F gb s.heap) gb gg size (.row true e items) ∨ (gb id = none ∧ items = []) := by
              rcases g.ok.live id _ ho with ⟨gg, size, hg, hr⟩ | ⟨hg, m, e', he⟩
              · exact ⟨gg, size, .inl ⟨hg, hr⟩⟩
              · injection he with _ _ he; exact ⟨0, 0, .inr ⟨hg, he⟩⟩
            obtain ⟨gg, size, hl⟩ := hlive
            rcases hl with ⟨hg, h0, cur, fr, h1, hf, h2, h3, h4⟩ | ⟨hg, hnil⟩
            · have htk : items.take hh.toNat ++ items.drop hh.toNat = items := List.take_append_drop _ _
              have hfl : (items.take hh.toNat).flatten.length ≤ items.flatten.length := by
                have := congrArg (fun l => (List.flatten l).length) htk
                simp only [List.flatten_append, List.length_append] at this
                omega
              have := (g.change (w' := w) (oo' := .row true e (items.take hh.toNat)) ho trivial trivial (fun k => Iff.rfl) hg (Chg.self gg) (fun o u hc => .inr hc) ⟨fun it hit => h0 it (List.mem_of_mem_take hit), cur, fr, h1, hf, h2, Nat.le_trans hfl h3, ?_⟩).put (d := some d) (x := .rw id sz 0 hh.toNat) (v := u) (fun k hk => hd k (by rw [hod]; exact hk)) ?_
              · rw [hod]; exact this
              · have e1 : cur.toList.take (items.take hh.toNat).flatten.length = (cur.toList.take items.flatten.length).take (items.take hh.toNat).flatten.length := by
                  rw [List.take_take, Nat.min_eq_left hfl]
                have e2 : (items.take hh.toNat).flatten = items.flatten.take (items.take hh.toNat).flatten.length := by
                  have := congrArg List.flatten htk
                  rw [List.flatten_append] at this
                  rw [← this, List.take_left]
                rw [e1]
                have := h4.take (items.take hh.toNat).flatten.length
                rw [← e2] at this
                exact this.keep (chg_keep (w' := w) (oo := .row true e items) (oo' := .row true e (items.take hh.toNat)) ho (fun k => Iff.rfl) (Chg.self gg)) (Ext.refl _)
              · exact hrep.keep (chg_keep (w' := w) (gg := gg) (oo := .row true e items) (oo' := .row true e (items.take hh.toNat)) ho (fun k => Iff.rfl) (Chg.self gg)) (Ext.refl _)
            · subst hnil
              have hid : upd s.heap id (some (.row true e (([] : List (List AV)).take hh.toNat))) = s.heap := by
                funext j
                by_cases hj : j = id
                · subst hj; rw [upd_same, ho]; simp
                · rw [upd_other (fun e => hj e.symm)]
              have : (s.chg id (some (.row true e (([] : List (List AV)).take hh.toNat)))) = s := by
                unfold AS.chg; rw [hid]
              rw [this, hod]
              exact g.put (d := some d) (fun k hk => hd k (by rw [hod]; exact hk)) hrep
          · cases h
        · cases h
      · cases h
  · cases h
theorem fop_sound (hT : T.Ok P) (h : fop T A o s = some s') (g : Good P N F w0 gb0 H0 s a w gb) (hd : ∀ k, o.dst = some k → k < N) (hK : ∀ a' w', R P N F w0 gb0 H0 s' a' w' → K a' w') : o.wp P a w K Q := by
  unfold fop at h
  split at h
  · rename_i x hop
    have plain : s' = s.put o.dst (s.eval x) → o.wp P a w K Q := fun hs => by
      subst hs
      exact wp_val (v := a.eval x) (w' := w) (by unfold execOp; simp only [hop]; rfl) (hK _ _ ⟨gb, g.put hd (g.eval x)⟩)
    split at h
    · rename_i d I hod hi
      simp only [Option.some.injEq] at h
      subst h
      have hx : isNilO x = true := by
        cases hx : isNilO x with
        | true => rfl
        | false => rw [hx] at hi; cases hi
      have hv : a.eval x = .slice none 0 0 := by
        unfold isNilO at hx
        split at hx
        · rename_i v
          unfold isNilV at hx
          split at hx
          · rfl
          · cases hx
        · cases hx
      refine wp_val (v := .slice none 0 0) (w' := w) (by unfold execOp; simp only [hop, hv]; rfl) (hK _ _ ⟨gb, ?_⟩)
      rw [hod]
      exact g.freshNil.put (d := some d) (fun k hk => hd k (by rw [hod]; exact hk)) (Rep.rwn _ _)
    · simp only [Option.some.injEq] at h
      exact plain h.symm
  · split at h
    · rename_i v hv
      split at h
      · rename_i s2 hs2
        simp only [Option.some.injEq] at h
        subst h
        exact s_cut (hd := hd) hT hs2 hv g hK
      · simp only [Option.some.injEq] at h
        subst h
        obtain ⟨u, hrun, hrep⟩ := fval_sound hT hv g
        exact wp_val hrun (hK _ _ ⟨gb, g.put hd hrep⟩)
    · split at h
      · rename_i s2 hs2
        simp only [Option.some.injEq] at h
        subst h
        exact feff_sound hT hs2 g hd hK
      · split at h
        · rename_i c hop
          exact s_app hop hT h g hd hK
        · cases h
theorem run_call {c : Call} {f : FuncId} {as : List AV} (hop : o.op = .call c) (hc : callee? s c = some (f, as)) (hok : okF P f = true) (g : Good P N F w0 gb0 H0 s a w gb) : ∃ vs : List Value, as.length = vs.length ∧ (∀ (j : Nat) (x : AV) (v : Value), as[j]? = some x → vs[j]? = some v → Rep w (Wr F gb s.heap) gb x v) ∧ (execOp a.eval o).run P w = .ok (.enter f vs.toArray) w := by
  obtain ⟨callee, args, argTypes⟩ := c
  unfold callee? at hc
  simp only at hc
  split at hc
  · rename_i x
    split at hc
    · rename_i f' caps hx
      simp only [Option.some.injEq, Prod.mk.injEq] at hc
      obtain ⟨rfl, rfl⟩ := hc
      have hr := g.eval x
      rw [hx] at hr
      generalize hv : a.eval x = v at hr
      cases hr with
      | fn _ _ vs hl hrep =>
        refine ⟨args.toList.map a.eval ++ vs, by simp [hl], fun j y u hy hu => ?_, ?_⟩
        · by_cases hj : j < args.toList.length
          · rw [List.getElem?_append_left (by simpa using hj)] at hy hu
            rw [List.getElem?_map, Option.map_eq_some_iff] at hy hu
            obtain ⟨z, hz, rfl⟩ := hy
            obtain ⟨z', hz', rfl⟩ := hu
            rw [hz] at hz'
            injection hz' with hz'
            subst hz'
            exact g.eval z
          · rw [List.getElem?_append_right (by simp at hj ⊢; omega)] at hy hu
            simp only [List.length_map] at hy hu
            exact hrep _ y u hy hu
        · unfold okF at hok
          split at hok
          · rename_i fn hfn
            simp only [Bool.and_eq_true, Bool.not_eq_true', Option.isSome_iff_exists] at hok
            obtain ⟨h1, b, hb⟩ := hok
            unfold execOp
            simp only [hop, resolve, hv, Deferred.ofValue, Sem.run_bind, Sem.run_pure, Result.andThen_ok, invoke, callFunc, run_program, hfn]
            have : (#[] ++ Array.map a.eval args ++ vs.toArray : Array Value) = (args.toList.map a.eval ++ vs).toArray := by
              apply Array.toList_inj.1; simp
            simp [h1, hb, this]
          · cases hok
    · cases hc
  · cases hc
theorem Good.after {Post : AV → Hp → Nat → Prop} {e : Ending} {v : Value} {r : AV} {d : Option Nat} (g : Good P N F w0 gb0 H0 s a w gb) (h : Done P F gb s.heap w Post e w' v r H' n' gb') (hd : ∀ k, d = some k → k < N) : Good P N F w0 gb0 H0 ((⟨s.env, H', n'⟩ : AS).put d r) (a.put d v) w' gb' := by
  refine Good.put ⟨g.kept.trans h.kept (fun k hk hx => g.x0 k hk hx) (fun b o hb hw => g.wr0 b o hb hw), g.ext.trans h.ext, h.ok, fun b o hlt hw => g.wr0 b o hlt (h.wr b o (Nat.lt_of_lt_of_le hlt g.kept.size) hw), fun b hlt hx => g.x0 b hlt (h.x b (Nat.lt_of_lt_of_le hlt g.kept.size) hx), g.size, g.defers, fun t => ?_⟩ hd h.rep
  refine (g.slots t).keep (fun b o u hn hc => ⟨h.kept.cell b o u (fun hw => hn (.inr hw)) hc, ?_⟩) h.ext
  rintro (hf | hw)
  · exact hn (.inl hf)
  · exact hn (.inr (h.wr b o (cell_lt hc) hw))
theorem s_call {c : Call} {f : FuncId} {as : List AV} {res : AV} (hop : o.op = .call c) (hc : callee? s c = some (f, as)) (hA : ACalls P f (as.map (AV.view s.heap)) res) (g : Good P N F w0 gb0 H0 s a w gb) (hd : ∀ k, o.dst = some k → k < N) (hK : ∀ a' w', R P N F w0 gb0 H0 (s.put o.dst res) a' w' → K a' w') : o.wp P a w K Q := by
  obtain ⟨vs, hl, hrep, hrun⟩ := run_call hop hc hA.1 g
  have hcall := hA.2 w (Wr F gb s.heap) gb vs (fun b o hw => by
    rcases hw with h | ⟨id, t, hg, _⟩
    · exact g.ok.FB b o h
    · exact (g.ok.lt id b t hg).2) (by simpa using hl) (fun j x v hx hv => by
      rw [List.getElem?_map, Option.map_eq_some_iff] at hx
      obtain ⟨y, hy, rfl⟩ := hx
      exact view_rep g.ok (hrep j y v hy hv))
  unfold Oper.wp
  rw [hrun, Oper.upon_enter]
  refine hcall.mono fun e w' ⟨v, he, hr, hb⟩ => ?_
  subst he
  exact hK _ _ ⟨gb, (g.world hb).put hd hr⟩
theorem s_hcall {c : Call} {f : FuncId} {as : List AV} {Post : AV → Hp → Nat → Prop} (hop : o.op = .call c) (hc : callee? s c = some (f, as)) (hA : HCalls P f as s.heap s.next Post) (g : Good P N F w0 gb0 H0 s a w gb) (hd : ∀ k, o.dst = some k → k < N) (hK : ∀ res H' n', Post res H' n' → ∀ a' w', R P N F w0 gb0 H0 ((⟨s.env, H', n'⟩ : AS).put o.dst res) a' w' → K a' w') : o.wp P a w K Q := by
  obtain ⟨vs, hl, hrep, hrun⟩ := run_call hop hc hA.1 g
  have hcall := hA.2 w F gb vs g.ok hl hrep
  unfold Oper.wp
  rw [hrun, Oper.upon_enter]
  refine hcall.mono fun e w' ⟨v, r, H', n', gb', hdn⟩ => ?_
  have he := hdn.ret
  subst he
  exact hK r H' n' hdn.post _ _ ⟨gb', g.after hdn hd⟩
theorem s_next {x : Operand} {id m : Nat} {since last : Nat} {seen : List Nat} {es : List ME} {clock : Nat} (hop : o.op = .next x false) (hx : s.eval x = .ptr id 0) (hi : s.heap id = some (.iter (some m) since seen last)) (hm : s.heap m = some (.map es clock)) (hold : ∀ e ∈ es, e.born < since) (hsl : since ≤ last)
    (g : Good P N F w0 gb0 H0 s a w gb) (hd : ∀ k, o.dst = some k → k < N) (h1 : leftE es seen = [] → ∀ a' w', R P N F w0 gb0 H0 (s.put o.dst (.tup [.lit (.bool false)])) a' w' → K a' w')
    (h2 : ∀ e ∈ leftE es seen, ∀ a' w', R P N F w0 gb0 H0 ((s.chg id (some (.iter (some m) since (seen ++ [e.born]) clock))).put o.dst (.tup [.lit (.bool true), e.key, e.val])) a' w' → K a' w') : o.wp P a w K Q := by
  have he := g.eval x
  rw [hx] at he
  generalize hv : a.eval x = v at he
  cases he with
  | ptr _ _ gi size hg =>
    rcases g.ok.live id _ hi with ⟨g', size', hg', mb, q1, q2⟩ | ⟨_, m', e', he'⟩
    · rw [hg] at hg'
      injection hg' with hg'
      injection hg' with e1 e2
      subst e1 e2
      cases mb with
      | none => exact q1.elim
      | some gm =>
        obtain ⟨sm, hsm⟩ := q1
        obtain ⟨gm', size', ents, hg2, hv2, hb2, hl2, hrep⟩ := rep_map g.ok (Rep.mp m gm sm hsm) hm
        rw [hsm] at hg2
        injection hg2 with hg2
        injection hg2 with e1 e2
        subst e1 e2
        have hpair : ∀ x ∈ ents.toList, ∃ (j : Nat) (e : ME), es[j]? = some e ∧ ents[j]? = some x := fun x hx => by
          obtain ⟨j, hj⟩ := List.mem_iff_getElem?.1 hx
          have hj' : ents[j]? = some x := by simpa using hj
          have hlt := (Array.getElem?_eq_some_iff.1 hj').1
          exact ⟨j, _, List.getElem?_eq_getElem (by omega), hj'⟩
        have hold' : ∀ x ∈ ents.toList, x.born < since := fun x hx => by
          obtain ⟨j, e, he, hj⟩ := hpair x hx
          rw [(hrep j e x he hj).born]
          exact hold e (List.mem_of_getElem? he)
        rcases Go.run_next_at (P := P) w o.type gi gm since last seen.toArray ents clock q2 hb2 hold' hsl with ⟨hl0, hrun⟩ | ⟨x, hxl, w1, hw1, hrun⟩
        · refine wp_val (v := .tuple #[.bool false]) (w' := w) ?_ (h1 ?_ _ _ ⟨gb, g.put hd ?_⟩)
          · unfold execOp
            simp only [hop, hv]
            rw [Sem.run_bind, hrun]; rfl
          · rw [List.eq_nil_iff_forall_not_mem]
            intro e he
            unfold leftE at he
            rw [List.mem_filter] at he
            obtain ⟨he1, he2⟩ := he
            obtain ⟨j, hj⟩ := List.mem_iff_getElem?.1 he1
            have hlt := (List.getElem?_eq_some_iff.1 hj).1
            have hx : ents[j]? = some (ents[j]'(by omega)) := Array.getElem?_eq_getElem (by omega)
            have hb := (hrep j e _ hj hx).born
            have hmem : ents[j]'(by omega) ∈ leftOf ents seen.toArray := by
              unfold leftOf
              rw [Array.mem_filter]
              refine ⟨Array.getElem_mem _, ?_⟩
              rw [hb]
              simpa using he2
            have := Array.eq_empty_of_size_eq_zero hl0
            rw [this] at hmem
            simp at hmem
          · refine Rep.tup [.lit (.bool false)] [.bool false] rfl fun j c y hc hy => ?_
            match j with
            | 0 => simp only [List.getElem?_cons_zero, Option.some.injEq] at hc hy; subst hc hy; exact .lit _
            | j + 1 => simp at hc
        · have hx' : x ∈ ents.toList ∧ !seen.contains x.born := by
            have h3 : x ∈ leftOf ents seen.toArray := by simpa using hxl
            unfold leftOf at h3
            rw [Array.mem_filter] at h3
            exact ⟨by simpa using h3.1, by simpa using h3.2⟩
          obtain ⟨j, e, hje, hjx⟩ := hpair x hx'.1
          have hre := hrep j e x hje hjx
          have hel : e ∈ leftE es seen := by
            unfold leftE
            rw [List.mem_filter]
            refine ⟨List.mem_of_getElem? hje, ?_⟩
            rw [← hre.born]; exact hx'.2
          have hw : w1.heap = w.heap ∧ w1.os = w.os ∧ w1.tape = w.tape ∧ w1.output = w.output := by
            rcases hw1 with rfl | rfl <;> exact ⟨rfl, rfl, rfl, rfl⟩
          have hset := Go.MapKept.heap_set (w := w1) (r := gi) (o' := .mapIter (some gm) since (seen.toArray.push x.born) clock) (by rw [hw.1]; exact q2)
          obtain ⟨wn, hwn⟩ : ∃ wn, wn = Go.ChangeMaps.setBlock w1 gi (.mapIter (some gm) since (seen.toArray.push x.born) clock) := ⟨_, rfl⟩
          have hch : Chg F gb s.heap gi w wn := by
            subst hwn
            refine ⟨hw.2.1, hw.2.2.1, hw.2.2.2, by simp [Go.ChangeMaps.setBlock, hw.1], fun k hk => by have := hset.2 k hk; rw [hw.1] at this; simpa [Go.ChangeMaps.setBlock, hw.1] using this, fun o u _ hc => by simp [World.cell?, q2] at hc, fun cur e fr hc => by rw [q2] at hc; cases hc⟩
          have hblk : wn.heap[gi]? = some (.mapIter (some gm) since (seen.toArray.push x.born) clock) := by subst hwn; exact hset.1
          rw [← hwn] at hrun
          refine wp_val (v := .tuple #[.bool true, x.key, x.val]) (w' := wn) ?_ (h2 e hel _ _ ⟨gb, ?_⟩)
          · unfold execOp
            simp only [hop, hv]
            rw [Sem.run_bind, hrun]; rfl
          · have hg' := g.change (oo' := .iter (some m) since (seen ++ [e.born]) clock) hi trivial trivial (fun k => Iff.rfl) hg hch (fun o u hc => by simp [World.cell?, q2] at hc) ⟨some gm, ⟨sm, hsm⟩, by rw [hblk, hre.born]; simp⟩
            have hkp := chg_keep (oo' := .iter (some m) since (seen ++ [e.born]) clock) hi (fun k => Iff.rfl) hch
            refine hg'.put hd (Rep.tup [.lit (.bool true), e.key, e.val] [.bool true, x.key, x.val] rfl fun j c y hc hy => ?_)
            match j with
            | 0 => simp only [List.getElem?_cons_zero, Option.some.injEq] at hc hy; subst hc hy; exact .lit _
            | 1 => simp only [List.getElem?_cons_succ, List.getElem?_cons_zero, Option.some.injEq] at hc hy; subst hc hy; exact hre.key.keep hkp (Ext.refl _)
            | 2 => simp only [List.getElem?_cons_succ, List.getElem?_cons_zero, Option.some.injEq] at hc hy; subst hc hy; exact hre.val.keep hkp (Ext.refl _)
            | j + 3 => simp at hc
    · cases he'
theorem gsem_ok {ops : Array Oper} {b : Bool} (g : Good P N F w0 gb0 H0 s a w gb) (h : gsem ops.toList s o = some b) : Region.wanted o (yielded ops a.tmps) = b := by
  unfold gsem at h
  unfold Region.wanted
  split at h
  · rename_i hg
    simp only [Option.some.injEq] at h
    simp [hg, h]
  · rename_i j want hg
    simp only [hg]
    rw [Option.bind_eq_some_iff] at h
    obtain ⟨d, hd, h⟩ := h
    unfold AV.said? at h
    split at h
    · rename_i x c hc
      simp only [Option.some.injEq] at h
      subst h
      have hv := rep_lit? (g.slots d) (u := .bool c) (by rw [hc]; rfl)
      have hy : yielded ops a.tmps j = some c := by
        unfold yielded
        rw [Array.getElem?_toList] at hd
        have h1 : a.tmps[d]? = some (.bool c) := by
          rw [Array.getD_eq_getD_getElem?] at hv
          cases hx : a.tmps[d]? with
          | none => rw [hx] at hv; cases hv
          | some y => rw [hx] at hv; exact congrArg some hv
        simp only [hd, Option.bind_some, h1]
      rw [hy]
      rfl
    · rename_i x vs hc
      simp only [Option.some.injEq] at h
      subst h
      have hv := rep_lit? (g.slots d) (u := .tuple vs) (by rw [hc]; rfl)
      have hy : yielded ops a.tmps j = none := by
        unfold yielded
        rw [Array.getElem?_toList] at hd
        simp only [hd, Option.bind_some]
        rw [Array.getD_eq_getD_getElem?] at hv
        cases hx : a.tmps[d]? with
        | none => rfl
        | some y =>
          rw [hx] at hv
          have : y = .tuple vs := hv
          rw [this]
      rw [hy]
      rfl
    · cases h
/-- The walk through a region in the text's order. -/
theorem rk_sound {ops : Array Oper} (hT : T.Ok P) : ∀ (l : List Oper), (∀ o ∈ l, okD N o = true) → ∀ {s : AS} {a : Act} {w : World} {Ka : AS → Prop}, R P N F w0 gb0 H0 s a w → rk P T A ops.toList l s Ka → (∀ s' a' w', Ka s' → R P N F w0 gb0 H0 s' a' w' → Q .normal a' w') → wpList P ops Q l a w := by
  intro l
  induction l with
  | nil => intro _ s a w Ka hr h hK; exact wpList_nil (hK s a w h hr)
  | cons o l ih =>
    intro hok s a w Ka hr h hK
    obtain ⟨gb, g⟩ := hr
    have hd : ∀ k, o.dst = some k → k < N := fun k hk => by
      have := hok o (by simp)
      unfold okD at this
      rw [hk] at this
      exact Nat.le_of_ble_eq_true this
    have hok' : ∀ o ∈ l, okD N o = true := fun o ho => hok o (by simp [ho])
    refine wpList_step fun Kc hKc => ?_
    unfold rk at h
    split at h
    · rename_i hg
      have hw := gsem_ok g hg
      rw [hw, if_pos rfl]
      split at h
      · rename_i s' hs'
        exact fop_sound hT hs' g hd fun a' w' hr' => hKc _ _ (ih hok' hr' h hK)
      · split at h
        · rename_i c hop
          split at h
          · rename_i f as hc
            rcases h with ⟨res, hA, h⟩ | ⟨Post, hA, h⟩
            · exact s_call hop hc hA g hd fun a' w' hr' => hKc _ _ (ih hok' hr' h hK)
            · exact s_hcall hop hc hA g hd fun res H' n' hp a' w' hr' => hKc _ _ (ih hok' hr' (h res H' n' hp) hK)
          · exact h.elim
        · rename_i x hop
          split at h
          · rename_i id hx
            split at h
            · rename_i m since seen last hi
              split at h
              · rename_i es clock hm
                obtain ⟨q1, q2, q3, q4⟩ := h
                exact s_next hop hx hi hm q1 q2 g hd (fun hl a' w' hr' => hKc _ _ (ih hok' hr' (q3 hl) hK)) (fun e he a' w' hr' => hKc _ _ (ih hok' hr' (q4 e he) hK))
              · exact h.elim
            · exact h.elim
          · exact h.elim
        · exact h.elim
    · rename_i hg
      have hw := gsem_ok g hg
      rw [hw, if_neg (by simp)]
      exact hKc _ _ (ih hok' ⟨gb, g.put hd (x := .skip) (Rep.lit undef)⟩ h hK)
    · exact h.elim
end
end Go.Proofs.Ytheanmfdfoefoaa.Hv
