/- Abstract values over an abstract heap: calls that lay one object. Plain: over any program. -/
import Derived.Test.YtheanmfdfoefoaaHvFn
set_option linter.unusedVariables false
set_option linter.unusedSimpArgs false
namespace Go.Proofs.Ytheanmfdfoefoaa.Hv
open Go Go.RowKit
section
variable {P : Program} {F : Nat → Nat → Prop} {w w' : World} {gb : Gb} {H : Hp} {n : Nat}
theorem freshAt_wr (h : HeapOk P w F gb H n) {gg size : Nat} {oo : AO} (hg1 : w.heap.size ≤ gg) {b o : Nat} (hb : b < w.heap.size) (hn : ¬ Wr F gb H b o) : ¬ Wr F (gbn gb n (gg, size)) (upd H n (some oo)) b o := by
  rintro (hf | ⟨id, s, hg, hw⟩)
  · exact hn (.inl hf)
  · unfold gbn at hg
    split at hg
    · injection hg with hg
      injection hg with e1 e2
      omega
    · rename_i hne
      rw [upd_other (fun e => hne e.symm)] at hw
      exact hn (.inr ⟨id, s, hg, hw⟩)
theorem freshAt_keep (h : HeapOk P w F gb H n) (hb : Below w.heap.size w w') {gg size : Nat} {oo : AO} (hg1 : w.heap.size ≤ gg) (b o : Nat) (u : Value) (hn : ¬ Wr F gb H b o) (hc : w.cell? ⟨b, o, none⟩ = some u) : w'.cell? ⟨b, o, none⟩ = some u ∧ ¬ Wr F (gbn gb n (gg, size)) (upd H n (some oo)) b o :=
  ⟨(hb.cell (p := ⟨_, _, none⟩) (cell_lt hc)).trans hc, freshAt_wr h hg1 (cell_lt hc) hn⟩
theorem HeapOk.freshAt {oo : AO} {gg size : Nat} (h : HeapOk P w F gb H n) (hb : Below w.heap.size w w') (hg1 : w.heap.size ≤ gg) (hg2 : gg < w'.heap.size) (hr : ObjRep P w' (Wr F (gbn gb n (gg, size)) (upd H n (some oo))) (gbn gb n (gg, size)) gg size oo) :
    HeapOk P w' F (gbn gb n (gg, size)) (upd H n (some oo)) (n + 1) := by
  have hs := hb.size
  have hat : ∀ {id g t}, gbn gb n (gg, size) id = some (g, t) → (id = n ∧ g = gg ∧ t = size) ∨ (id ≠ n ∧ gb id = some (g, t)) := fun {id g t} hg => by
    unfold gbn at hg
    split at hg
    · injection hg with hg
      injection hg with e1 e2
      exact .inl ⟨by assumption, e1.symm, e2.symm⟩
    · exact .inr ⟨by assumption, hg⟩
  refine ⟨fun id g t hg => ?_, fun id hid => ?_, fun id o ho => ?_, fun i j g t t' hi hj hxi hxj => ?_, fun b o hf => Nat.lt_of_lt_of_le (h.FB b o hf) hb.size, fun b o hf hx => ?_⟩
  · rcases hat hg with ⟨rfl, rfl, _⟩ | ⟨_, hg⟩
    · omega
    · have := h.lt id g t hg; omega
  · rw [upd_other (by omega)]
    exact h.new id (by omega)
  · by_cases hid : id = n
    · subst hid
      rw [upd_same] at ho
      injection ho with ho
      subst ho
      exact .inl ⟨gg, size, by unfold gbn; rw [if_pos rfl], hr⟩
    · rw [upd_other (fun e => hid e.symm)] at ho
      rcases h.live id o ho with ⟨g, t, hg, hrr⟩ | ⟨hg, he⟩
      · exact .inl ⟨g, t, gbn_ext h _ _ _ hg, hrr.keep (hb.block g (h.lt id g t hg).2) (freshAt_keep h hb hg1) (gbn_ext h _)⟩
      · exact .inr ⟨by unfold gbn; rw [if_neg hid]; exact hg, he⟩
  · rcases hat hi with ⟨h1, h2, _⟩ | ⟨h1, h2⟩ <;> rcases hat hj with ⟨h3, h4, _⟩ | ⟨h3, h4⟩
    · omega
    · have := (h.lt j g t' h4).2; omega
    · have := (h.lt i g t h2).2; omega
    · rw [upd_other (fun e => h1 e.symm)] at hxi
      rw [upd_other (fun e => h3 e.symm)] at hxj
      exact h.one i j g t t' h2 h4 hxi hxj
  · obtain ⟨id, t, hg, hx⟩ := hx
    have hbl := h.FB b o hf
    rcases hat hg with ⟨_, h2, _⟩ | ⟨h1, h2⟩
    · omega
    · rw [upd_other (fun e => h1 e.symm)] at hx
      exact h.FX b o hf ⟨id, t, h2, hx⟩
/-- A call that lays one object (and things that nobody knows). -/
theorem done_newAt {oo : AO} {gg size : Nat} {Post : AV → Hp → Nat → Prop} {v : Value} {r : AV} (h : HeapOk P w F gb H n) (hb : Below w.heap.size w w') (hg1 : w.heap.size ≤ gg) (hg2 : gg < w'.heap.size)
    (hr : ObjRep P w' (Wr F (gbn gb n (gg, size)) (upd H n (some oo))) (gbn gb n (gg, size)) gg size oo) (hp : Post r (upd H n (some oo)) (n + 1)) (hv : Rep w' (Wr F (gbn gb n (gg, size)) (upd H n (some oo))) (gbn gb n (gg, size)) r v) :
    ∃ v' r' H' n' gb', Done P F gb H w Post (.returned v) w' v' r' H' n' gb' := by
  have hat : ∀ {id b t}, gbn gb n (gg, size) id = some (b, t) → b < w.heap.size → id ≠ n ∧ gb id = some (b, t) := fun {id b t} hg hlt => by
    unfold gbn at hg
    split at hg
    · injection hg with hg
      injection hg with e1 e2
      omega
    · exact ⟨by assumption, hg⟩
  refine ⟨v, r, _, n + 1, gbn gb n (gg, size), rfl, hp, .of_below hb, gbn_ext h _, h.freshAt hb hg1 hg2 hr, fun b o hlt hw => ?_, fun b hlt hx => ?_, hv⟩
  · obtain ⟨id, t, hg, hw⟩ := hw
    obtain ⟨h1, h2⟩ := hat hg hlt
    have hw' : wrO (upd H n (some oo) id) o := hw
    rw [upd_other (fun e => h1 e.symm)] at hw'
    exact ⟨id, t, h2, hw'⟩
  · obtain ⟨id, t, hg, hx⟩ := hx
    obtain ⟨h1, h2⟩ := hat hg hlt
    have hx' : exO (upd H n (some oo) id) := hx
    rw [upd_other (fun e => h1 e.symm)] at hx'
    exact ⟨id, t, h2, hx'⟩
/-- A call that lays nothing that anybody knows. -/
theorem done_less {Post : AV → Hp → Nat → Prop} {v : Value} {r : AV} (h : HeapOk P w F gb H n) (hb : Below w.heap.size w w') (hp : Post r H n) (hv : Rep w' (Wr F gb H) gb r v) : ∃ v' r' H' n' gb', Done P F gb H w Post (.returned v) w' v' r' H' n' gb' :=
  ⟨v, r, H, n, gb, rfl, hp, .of_below hb, Ext.refl _, h.world hb, fun _ _ _ h => h, fun _ _ h => h, hv⟩
theorem flat_lits {α : Type} (enc : α → List Value) (l : List α) : (l.map fun x => (enc x).map AV.lit).flatten = (l.flatMap enc).map AV.lit := by
  induction l with
  | nil => rfl
  | cons a l ih => simp only [List.map_cons, List.flatten_cons, List.flatMap_cons, List.map_append, ih]
/-- A row that the call owns: the values are as they are. -/
theorem done_ownsRow {Post : AV → Hp → Nat → Prop} {α : Type} {enc : α → List Value} {l : List α} {sz e : Nat} {m : Bool} {v : Value} (h : HeapOk P w F gb H n) (hb : Below w.heap.size w w') (hk : ∀ x, (enc x).length = sz) (h1 : ∀ x, ∀ u ∈ enc x, u.oneCell' = true) (hsz : szOf P e = sz) (hl : l.length ≤ maxLen)
    (hrow : w'.ownsRow w.heap.size e sz v l.length (l.flatMap enc)) (hnil : v = .slice none 0 0 → l = [] → Post (.lit (.slice none 0 0)) H n) (hp : Post (.rw n sz 0 l.length) (upd H n (some (.row m e (l.map fun x => (enc x).map .lit)))) (n + 1)) :
    ∃ v' r' H' n' gb', Done P F gb H w Post (.returned v) w' v' r' H' n' gb' := by
  rcases hrow.2 with ⟨rfl, hz⟩ | ⟨g, cap, cur, rfl, hbase, hgb, r1, r2, r3, r4⟩
  · have hl0 : l = [] := List.eq_nil_of_length_eq_zero hz
    exact done_less h hb (hnil rfl hl0) (.lit _)
  · have hfl := flat_lits enc l
    have hlen : (l.flatMap enc).length = l.length * sz := hrow.1
    refine done_newAt (oo := .row m e (l.map fun x => (enc x).map .lit)) (gg := g) (size := cur.size) h hb hbase (Array.getElem?_eq_some_iff.1 hgb).1 ⟨fun it hit => ?_, cur, (0, 0), hgb, cold0 _, rfl, ?_, ?_⟩ hp ?_
    · obtain ⟨x, _, rfl⟩ := List.mem_map.1 hit
      rw [List.length_map, hk, hsz]
    · rw [hfl, List.length_map, hlen, r3]
      exact Nat.mul_le_mul_right _ r1
    · rw [hfl, List.length_map, hlen, r4]
      refine ⟨List.length_map .., fun u hu => ?_, fun j c u hc hu => ?_⟩
      · obtain ⟨x, _, hx⟩ := List.mem_flatMap.1 hu
        exact h1 x u hx
      · rw [List.getElem?_map, hu, Option.map_some, Option.some.injEq] at hc
        subst hc
        exact .lit _
    · have := Rep.rw (w := w') (W := Wr F (gbn gb n (g, cur.size)) (upd H n (some (.row m e (l.map fun x => (enc x).map .lit))))) (gb := gbn gb n (g, cur.size)) n sz 0 l.length g cur.size cap (gbn_at _ _ _) (by rw [r3]; simp) r1 r2
      rwa [Nat.zero_mul] at this
end
end Go.Proofs.Ytheanmfdfoefoaa.Hv
