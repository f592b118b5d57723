/- Answers that a call owns, to the walk over a heap: slices to read for ever, or rows that may be written in. Plain: over any program. -/
import Derived.Test.YtmgpfckkafcllaaHvRd
import Derived.Test.YtmgpfckkafcllaaHvNew
set_option linter.unusedVariables false
set_option linter.unusedSimpArgs false
namespace Go.Proofs.Ytmgpfckkafcllaa
open Go Go.RowKit Hv
section
variable {w : World} {gb : Gb}
theorem rep_of_rdM {α : Type} {W : Nat → Nat → Prop} {f : α → List Value} {g : α → List AV} {sz : Nat} {l : List α} {v : Value} (hW : ∀ b off n c, v = .slice (some ⟨b, off, none⟩) n c → ∀ o, ¬ W b o) (hgl : ∀ a, (g a).length = sz) (hf : ∀ a, (f a).length = sz) (h1 : ∀ a ∈ l, ∀ u ∈ f a, u.oneCell' = true)
    (hg : ∀ a ∈ l, ∀ (k : Nat) (x : AV) (u : Value), (g a)[k]? = some x → (f a)[k]? = some u → Rep w W gb x u) (hsz : 0 < sz) (h : RdT w sz f v l) : Rep w W gb (.sl (l.map g)) v := by
  have hi : ∀ it ∈ l.map g, it.length = sz := by
    intro it hit
    obtain ⟨a, _, rfl⟩ := List.mem_map.1 hit
    exact hgl a
  obtain ⟨A, c, rfl, h2, h3, h4, h5⟩ := id h
  have hu := flat_pair (f := f) (g := g) (fun a => (hgl a).trans (hf a).symm) l
  have hgd : ∀ (j : Nat) (u : Value), (l.flatMap f)[j]? = some u → (l.flatMap f).getD j undef = u := fun j u hu => by rw [List.getD_eq_getElem?_getD, hu]; rfl
  have hlen : (l.map g).length = l.length := by simp
  rcases Nat.eq_zero_or_pos l.length with h0 | h0
  · obtain rfl := List.eq_nil_of_length_eq_zero h0
    exact rep_sl_nil rfl h3
  · obtain ⟨b, off, c', hv, hlt, _, _, _⟩ := RdT.at h hf hsz h0
    have hv0 := hv
    injection hv with hA _ _
    subst hA
    obtain ⟨ad, hA, hcell⟩ := h5 h0
    injection hA with hA
    subst hA
    rw [← hlen]
    refine Rep.sl (l.map g) sz _ c b off (fun j => (l.flatMap f).getD j undef) hi (by rw [hlen]; exact h2) h3 (fun _ => rfl) (fun j x hx => ?_) (fun _ _ _ => hW b off _ c' hv0 _) (fun j x hx => ?_) (fun j x hx => ?_)
    · obtain ⟨u, hu, _⟩ := hu j x hx
      have := hcell j u hu
      rw [Addr.add_lit] at this
      rw [hgd j u hu]; exact this
    · obtain ⟨u, hu, a, ha, k, _, hk⟩ := hu j x hx
      rw [hgd j u hu]
      exact h1 a ha u (List.mem_of_getElem? hk)
    · obtain ⟨u, hu, a, ha, k, hx', hk⟩ := hu j x hx
      rw [hgd j u hu]
      exact hg a ha k x u hx' hk
end
theorem rep_of_own {w : World} {W : Nat → Nat → Prop} {gb : Gb} {α : Type} {f : α → List Value} {g : α → List AV} {sz e base : Nat} {l : List α} {v : Value} (hW : ∀ b o, W b o → b < base) (hg : ∀ a, g a = (f a).map AV.lit) (hf : ∀ a, (f a).length = sz) (h1 : ∀ a, ∀ u ∈ f a, u.oneCell' = true) (hsz : 0 < sz)
    (h : w.ownsRow base e sz v l.length (l.flatMap f)) : Rep w W gb (.sl (l.map g)) v := by
  refine rep_of_rdM (fun b off n c hv o hw => ?_) (fun a => by rw [hg, List.length_map, hf]) hf (fun a _ => h1 a) (fun a _ k x u hx hu => by
    rw [hg, List.getElem?_map, hu] at hx
    simp only [Option.map_some, Option.some.injEq] at hx
    subst hx
    exact .lit u) hsz (Rd.of_own h)
  rcases h.2 with ⟨h2, _⟩ | ⟨g2, cap, cur, h2, h3, _⟩
  · rw [hv] at h2; cases h2
  · rw [hv] at h2
    injection h2 with h2 _ _
    injection h2 with h2
    injection h2 with h2 _ _
    have := hW b o hw
    omega
/-- A function's answer that it owns, beside other values: a row (m: that may be written in). -/
theorem hcalls_ownG {P : Program} {f : FuncId} {xs : List AV} {H : Hp} {n : Nat} {α : Type} {enc : α → List Value} {l : List α} {sz e : Nat} {R : AV → AV} {V : Value → Value} (m : Bool) (hRV : ∀ (w : World) (W : Nat → Nat → Prop) (gb : Gb) (v : Value), Rep w W gb (.rw n sz 0 l.length) v → Rep w W gb (R (.rw n sz 0 l.length)) (V v)) (hok : okF P f = true) (hk : ∀ x, (enc x).length = sz) (h1 : ∀ x, ∀ u ∈ enc x, u.oneCell' = true) (hsz : szOf P e = sz)
    (h : ∀ (w : World) (F : Nat → Nat → Prop) (gb : Gb) (vs : List Value), HeapOk P w F gb H n → xs.length = vs.length → (∀ (j : Nat) (x : AV) (v : Value), xs[j]? = some x → vs[j]? = some v → Rep w (Wr F gb H) gb x v) →
      Calls P f vs.toArray w fun e' w' => ∃ v', e' = .returned (V v') ∧ w'.ownsRow w.heap.size e sz v' l.length (l.flatMap enc) ∧ Below w.heap.size w w') :
    HCalls P f xs H n fun r H' n' => r = R (.rw n sz 0 l.length) ∧ H' = upd H n (some (.row m e (l.map fun x => (enc x).map .lit))) ∧ n' = n + 1 := by
  refine ⟨hok, fun w F gb vs hh hl hr => (h w F gb vs hh hl hr).mono ?_⟩
  rintro e' w' ⟨v', rfl, hrow, hb⟩
  rcases hrow.2 with ⟨rfl, hz⟩ | ⟨g, cap, cur, rfl, hbase, hgb, r1, r2, r3, r4⟩
  · have hl0 : l = [] := List.eq_nil_of_length_eq_zero hz
    subst hl0
    have hh' := hh.world hb
    have hwr : ∀ b o, Wr F gb (upd H n (some (.row m e []))) b o → Wr F gb H b o := by
      rintro b o (hf | ⟨j, t, hj, hw⟩)
      · exact .inl hf
      · by_cases hjn : j = n
        · subst hjn
          have := (hh.lt j b t hj).1
          omega
        · rw [upd_other (fun e => hjn e.symm)] at hw; exact .inr ⟨j, t, hj, hw⟩
    refine ⟨_, _, _, _, gb, rfl, ⟨rfl, rfl, rfl⟩, .of_below hb, Ext.refl _, hh'.freshNil, fun b o hlt hw => ?_, fun b hlt hx => ?_, hRV _ _ _ _ (.rwn n sz)⟩
    · obtain ⟨j, t, hj, hw⟩ := hw
      by_cases hjn : j = n
      · subst hjn
        have := (hh.lt j b t hj).1
        omega
      · have hw' : wrO (upd H n (some (.row m e [])) j) o := hw
        rw [upd_other (fun e => hjn e.symm)] at hw'; exact ⟨j, t, hj, hw'⟩
    · obtain ⟨j, t, hj, hx⟩ := hx
      by_cases hjn : j = n
      · subst hjn
        have := (hh.lt j b t hj).1
        omega
      · have hx' : exO (upd H n (some (.row m e [])) j) := hx
        rw [upd_other (fun e => hjn e.symm)] at hx'; exact ⟨j, t, hj, hx'⟩
  · have hfl := flat_lits enc l
    have hlen : (l.flatMap enc).length = l.length * sz := hrow.1
    refine done_newAt (oo := .row m e (l.map fun x => (enc x).map .lit)) (gg := g) (size := cur.size) hh hb hbase (Array.getElem?_eq_some_iff.1 hgb).1 ⟨fun it hit => ?_, cur, (0, 0), hgb, cold0 _, rfl, ?_, ?_⟩ ⟨rfl, rfl, rfl⟩ (hRV _ _ _ _ ?_)
    · obtain ⟨x, _, rfl⟩ := List.mem_map.1 hit
      rw [List.length_map, hk, hsz]
    · rw [hfl, List.length_map, hlen, r3]
      exact Nat.mul_le_mul_right _ r1
    · rw [hfl, List.length_map, hlen, r4]
      refine ⟨List.length_map .., fun u hu => ?_, fun j c u hc hu => ?_⟩
      · obtain ⟨x, _, hx⟩ := List.mem_flatMap.1 hu
        exact h1 x u hx
      · rw [List.getElem?_map, hu, Option.map_some, Option.some.injEq] at hc
        subst hc
        exact .lit _
    · have := Rep.rw (w := w') (W := Wr F (gbn gb n (g, cur.size)) (upd H n (some (.row m e (l.map fun x => (enc x).map .lit))))) (gb := gbn gb n (g, cur.size)) n sz 0 l.length g cur.size cap (gbn_at _ _ _) (by rw [r3]; simp) r1 r2
      rwa [Nat.zero_mul] at this
/-- .. and a number: the row may be written in. -/
theorem hcalls_own2 {P : Program} {f : FuncId} {xs : List AV} {H : Hp} {n : Nat} {α : Type} {enc : α → List Value} {l : List α} {sz e : Nat} {u : Value} (hok : okF P f = true) (hk : ∀ x, (enc x).length = sz) (h1 : ∀ x, ∀ u ∈ enc x, u.oneCell' = true) (hsz : szOf P e = sz)
    (h : ∀ (w : World) (F : Nat → Nat → Prop) (gb : Gb) (vs : List Value), HeapOk P w F gb H n → xs.length = vs.length → (∀ (j : Nat) (x : AV) (v : Value), xs[j]? = some x → vs[j]? = some v → Rep w (Wr F gb H) gb x v) →
      Calls P f vs.toArray w fun e' w' => ∃ v', e' = .returned (.tuple #[v', u]) ∧ w'.ownsRow w.heap.size e sz v' l.length (l.flatMap enc) ∧ Below w.heap.size w w') :
    HCalls P f xs H n fun r H' n' => r = .tup [.rw n sz 0 l.length, .lit u] ∧ H' = upd H n (some (.row true e (l.map fun x => (enc x).map .lit))) ∧ n' = n + 1 :=
  hcalls_ownG (R := fun a => .tup [a, .lit u]) (V := fun v => .tuple #[v, u]) true (fun w W gb v hv => by
    refine Rep.tup [.rw n sz 0 l.length, .lit u] [v, u] rfl fun j c y hc hy => ?_
    match j with
    | 0 => simp only [List.getElem?_cons_zero, Option.some.injEq] at hc hy; subst hc hy; exact hv
    | 1 => simp only [List.getElem?_cons_succ, List.getElem?_cons_zero, Option.some.injEq] at hc hy; subst hc hy; exact .lit u
    | j + 2 => simp at hc) hok hk h1 hsz h
/-- .. between two numbers. -/
theorem hcalls_own3 {P : Program} {f : FuncId} {xs : List AV} {H : Hp} {n : Nat} {α : Type} {enc : α → List Value} {l : List α} {sz e : Nat} {a u : Value} (m : Bool) (hok : okF P f = true) (hk : ∀ x, (enc x).length = sz) (h1 : ∀ x, ∀ u ∈ enc x, u.oneCell' = true) (hsz : szOf P e = sz)
    (h : ∀ (w : World) (F : Nat → Nat → Prop) (gb : Gb) (vs : List Value), HeapOk P w F gb H n → xs.length = vs.length → (∀ (j : Nat) (x : AV) (v : Value), xs[j]? = some x → vs[j]? = some v → Rep w (Wr F gb H) gb x v) →
      Calls P f vs.toArray w fun e' w' => ∃ v', e' = .returned (.tuple #[a, v', u]) ∧ w'.ownsRow w.heap.size e sz v' l.length (l.flatMap enc) ∧ Below w.heap.size w w') :
    HCalls P f xs H n fun r H' n' => r = .tup [.lit a, .rw n sz 0 l.length, .lit u] ∧ H' = upd H n (some (.row m e (l.map fun x => (enc x).map .lit))) ∧ n' = n + 1 :=
  hcalls_ownG (R := fun x => .tup [.lit a, x, .lit u]) (V := fun v => .tuple #[a, v, u]) m (fun w W gb v hv => by
    refine Rep.tup [.lit a, .rw n sz 0 l.length, .lit u] [a, v, u] rfl fun j c y hc hy => ?_
    match j with
    | 0 => simp only [List.getElem?_cons_zero, Option.some.injEq] at hc hy; subst hc hy; exact .lit a
    | 1 => simp only [List.getElem?_cons_succ, List.getElem?_cons_zero, Option.some.injEq] at hc hy; subst hc hy; exact hv
    | 2 => simp only [List.getElem?_cons_succ, List.getElem?_cons_zero, Option.some.injEq] at hc hy; subst hc hy; exact .lit u
    | j + 3 => simp at hc) hok hk h1 hsz h
/-- A slice's things, read at once. -/
theorem rd_of_reads {w : World} {W : Nat → Nat → Prop} {gb : Gb} {α : Type} {f : α → List Value} {g : α → List AV} {sz : Nat} {l : List α} {v : Value} (hg : ∀ a, g a = (f a).map AV.lit) (hf : ∀ a, (f a).length = sz) (h : Reads w W gb (l.map g) v) : RdT w sz f v l := by
  obtain ⟨sz', A, c, b, off, val, hi, rfl, hc, hm, ha, hcell⟩ := h
  have hflat : (l.map g).flatten = (l.flatMap f).map AV.lit := flat_lit hg l
  refine ⟨A, c, by rw [List.length_map], by rw [List.length_map] at hc; omega, hm, flatMap_len hf l, fun h0 => ?_⟩
  have hne : l.map g ≠ [] := fun e => by have := congrArg List.length e; simp at this; rw [this] at h0; simp at h0
  refine ⟨_, ha hne, fun j u hu => ?_⟩
  have hx : (l.map g).flatten[j]? = some (.lit u) := by rw [hflat, List.getElem?_map, hu]; rfl
  obtain ⟨h1, _, h3⟩ := hcell j _ hx
  rw [Addr.add_lit, h1, rep_lit h3]
end Go.Proofs.Ytmgpfckkafcllaa
