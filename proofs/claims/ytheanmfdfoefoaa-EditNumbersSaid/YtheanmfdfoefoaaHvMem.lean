/- Abstract values: how the heap changes: an object more, an object's content. Plain: over any program. -/
import Derived.Test.YtheanmfdfoefoaaHvVal4
set_option linter.unusedVariables false
set_option linter.unusedSimpArgs false
namespace Go.Proofs.Ytheanmfdfoefoaa.Hv
open Go Go.RowKit

def gbn (gb : Gb) (n : Nat) (p : Nat × Nat) : Gb := fun j => if j = n then some p else gb j
def AS.fresh (s : AS) (oo : AO) : AS := ⟨s.env, upd s.heap s.next (some oo), s.next + 1⟩
def AS.chg (s : AS) (id : Nat) (oo : Option AO) : AS := ⟨s.env, upd s.heap id oo, s.next⟩
section
variable {P : Program} {T : Tbl} {N : Nat} {F : Nat → Nat → Prop} {w0 w w' : World} {gb0 gb gb' : Gb} {H0 H H' : Hp} {s : AS} {a : Act} {n n' : Nat} {W : Nat → Nat → Prop} {o : Oper}
theorem gbn_ext (h : HeapOk P w F gb H n) (p : Nat × Nat) : Ext gb (gbn gb n p) := by
  intro id q hq
  obtain ⟨g, s⟩ := q
  have := (h.lt id g s hq).1
  unfold gbn
  rw [if_neg (by omega)]
  exact hq
/-- What is read for ever stays so when an object comes that lies behind all. -/
theorem fresh_wr (h : HeapOk P w F gb H n) {size : Nat} {oo : AO} {b o : Nat} (hb : b < w.heap.size) (hn : ¬ Wr F gb H b o) : ¬ Wr F (gbn gb n (w.heap.size, size)) (upd H n (some oo)) b o := by
  rintro (hf | ⟨id, s, hg, hw⟩)
  · exact hn (.inl hf)
  · unfold gbn at hg
    split at hg
    · injection hg with hg
      injection hg with e1 e2
      omega
    · rename_i hne
      rw [upd_other (fun e => hne e.symm)] at hw
      exact hn (.inr ⟨id, s, hg, hw⟩)
theorem fresh_keep (h : HeapOk P w F gb H n) (hb : Below w.heap.size w w') {size : Nat} {oo : AO} (b o : Nat) (u : Value) (hn : ¬ Wr F gb H b o) (hc : w.cell? ⟨b, o, none⟩ = some u) : w'.cell? ⟨b, o, none⟩ = some u ∧ ¬ Wr F (gbn gb n (w.heap.size, size)) (upd H n (some oo)) b o :=
  ⟨(hb.cell (p := ⟨_, _, none⟩) (cell_lt hc)).trans hc, fresh_wr h (cell_lt hc) hn⟩
theorem HeapOk.fresh {oo : AO} {size : Nat} (h : HeapOk P w F gb H n) (hb : Below w.heap.size w w') (hs : w.heap.size < w'.heap.size) (hr : ObjRep P w' (Wr F (gbn gb n (w.heap.size, size)) (upd H n (some oo))) (gbn gb n (w.heap.size, size)) w.heap.size size oo) :
    HeapOk P w' F (gbn gb n (w.heap.size, size)) (upd H n (some oo)) (n + 1) := by
  have hat : ∀ {id g t}, gbn gb n (w.heap.size, size) id = some (g, t) → (id = n ∧ g = w.heap.size ∧ t = size) ∨ (id ≠ n ∧ gb id = some (g, t)) := fun {id g t} hg => by
    unfold gbn at hg
    split at hg
    · injection hg with hg
      injection hg with e1 e2
      exact .inl ⟨by assumption, e1.symm, e2.symm⟩
    · exact .inr ⟨by assumption, hg⟩
  refine ⟨fun id g t hg => ?_, fun id hid => ?_, fun id o ho => ?_, fun i j g t t' hi hj hxi hxj => ?_, fun b o hf => Nat.lt_of_lt_of_le (h.FB b o hf) hb.size, fun b o hf hx => ?_⟩
  · rcases hat hg with ⟨rfl, rfl, _⟩ | ⟨_, hg⟩
    · omega
    · have := h.lt id g t hg; omega
  · rw [upd_other (by omega)]
    exact h.new id (by omega)
  · by_cases hid : id = n
    · subst hid
      rw [upd_same] at ho
      injection ho with ho
      subst ho
      exact .inl ⟨w.heap.size, size, by unfold gbn; rw [if_pos rfl], hr⟩
    · rw [upd_other (fun e => hid e.symm)] at ho
      rcases h.live id o ho with ⟨g, t, hg, hrr⟩ | ⟨hg, he⟩
      · exact .inl ⟨g, t, gbn_ext h _ _ _ hg, hrr.keep (hb.block g (h.lt id g t hg).2) (fresh_keep h hb) (gbn_ext h _)⟩
      · exact .inr ⟨by unfold gbn; rw [if_neg hid]; exact hg, he⟩
  · rcases hat hi with ⟨h1, h2, _⟩ | ⟨h1, h2⟩ <;> rcases hat hj with ⟨h3, h4, _⟩ | ⟨h3, h4⟩
    · omega
    · have := (h.lt j g t' h4).2; omega
    · have := (h.lt i g t h2).2; omega
    · rw [upd_other (fun e => h1 e.symm)] at hxi
      rw [upd_other (fun e => h3 e.symm)] at hxj
      exact h.one i j g t t' h2 h4 hxi hxj
  · obtain ⟨id, t, hg, hx⟩ := hx
    have hbl := h.FB b o hf
    rcases hat hg with ⟨_, h2, _⟩ | ⟨h1, h2⟩
    · omega
    · rw [upd_other (fun e => h1 e.symm)] at hx
      exact h.FX b o hf ⟨id, t, h2, hx⟩
theorem Good.fresh {oo : AO} {size : Nat} (g : Good P N F w0 gb0 H0 s a w gb) (hb : Below w.heap.size w w') (hs : w.heap.size < w'.heap.size) (hr : ObjRep P w' (Wr F (gbn gb s.next (w.heap.size, size)) (upd s.heap s.next (some oo))) (gbn gb s.next (w.heap.size, size)) w.heap.size size oo) :
    Good P N F w0 gb0 H0 (s.fresh oo) a w' (gbn gb s.next (w.heap.size, size)) := by
  have hw0 := g.kept.size
  have hat : ∀ {id b t}, gbn gb s.next (w.heap.size, size) id = some (b, t) → b < w0.heap.size → id ≠ s.next ∧ gb id = some (b, t) := fun {id b t} hg hlt => by
    unfold gbn at hg
    split at hg
    · injection hg with hg
      injection hg with e1 e2
      omega
    · exact ⟨by assumption, hg⟩
  refine ⟨g.kept.trans (.of_below (X := fun _ => False) (W := fun _ _ => False) hb) (fun _ _ hx => hx.elim) (fun _ _ _ hx => hx.elim), g.ext.trans (gbn_ext g.ok _), g.ok.fresh hb hs hr, fun b o hlt hw => ?_, fun b hlt hx => ?_, g.size, g.defers, fun t => ?_⟩
  · obtain ⟨id, t, hg, hw⟩ := hw
    obtain ⟨h1, h2⟩ := hat hg hlt
    have hw' : wrO (upd s.heap s.next (some oo) id) o := hw
    rw [upd_other (fun e => h1 e.symm)] at hw'
    exact g.wr0 b o hlt ⟨id, t, h2, hw'⟩
  · obtain ⟨id, t, hg, hx⟩ := hx
    obtain ⟨h1, h2⟩ := hat hg hlt
    have hx' : exO (upd s.heap s.next (some oo) id) := hx
    rw [upd_other (fun e => h1 e.symm)] at hx'
    exact g.x0 b hlt ⟨id, t, h2, hx'⟩
  · exact (g.slots t).keep (fresh_keep g.ok hb) (gbn_ext g.ok _)
/-- A row without a block. -/
theorem HeapOk.freshNil {m : Bool} {e : TypeId} (h : HeapOk P w F gb H n) : HeapOk P w F gb (upd H n (some (.row m e []))) (n + 1) := by
  have hgn : gb n = none := by
    cases hg : gb n with
    | none => rfl
    | some p => obtain ⟨g, t⟩ := p; have := (h.lt n g t hg).1; omega
  have hwr : ∀ b o, Wr F gb (upd H n (some (.row m e []))) b o → Wr F gb H b o := by
    rintro b o (hf | ⟨id, t, hg, hw⟩)
    · exact .inl hf
    · have hne : id ≠ n := fun e => by subst e; rw [hgn] at hg; cases hg
      rw [upd_other (fun e => hne e.symm)] at hw
      exact .inr ⟨id, t, hg, hw⟩
  refine ⟨fun id g t hg => ⟨Nat.lt_succ_of_lt (h.lt id g t hg).1, (h.lt id g t hg).2⟩, fun id hid => ?_, fun id o ho => ?_, fun i j g t t' hi hj hxi hxj => ?_, h.FB, fun b o hf hx => ?_⟩
  · rw [upd_other (by omega)]; exact h.new id (by omega)
  · by_cases hid : id = n
    · subst hid
      rw [upd_same] at ho
      injection ho with ho
      subst ho
      exact .inr ⟨hgn, m, e, rfl⟩
    · rw [upd_other (fun e => hid e.symm)] at ho
      rcases h.live id o ho with ⟨g, t, hg, hrr⟩ | hh
      · exact .inl ⟨g, t, hg, hrr.keep rfl (fun b o u hn hc => ⟨hc, fun hw => hn (hwr b o hw)⟩) (Ext.refl _)⟩
      · exact .inr hh
  · have hi' : i ≠ n := fun e => by subst e; rw [hgn] at hi; cases hi
    have hj' : j ≠ n := fun e => by subst e; rw [hgn] at hj; cases hj
    rw [upd_other (fun e => hi' e.symm)] at hxi
    rw [upd_other (fun e => hj' e.symm)] at hxj
    exact h.one i j g t t' hi hj hxi hxj
  · obtain ⟨id, t, hg, hx⟩ := hx
    have hne : id ≠ n := fun e => by subst e; rw [hgn] at hg; cases hg
    rw [upd_other (fun e => hne e.symm)] at hx
    exact h.FX b o hf ⟨id, t, hg, hx⟩
theorem Good.freshNil {m : Bool} {e : TypeId} (g : Good P N F w0 gb0 H0 s a w gb) : Good P N F w0 gb0 H0 (s.fresh (.row m e [])) a w gb := by
  have h := g.ok
  have hgn : gb s.next = none := by
    cases hg : gb s.next with
    | none => rfl
    | some p => obtain ⟨b, t⟩ := p; have := (h.lt s.next b t hg).1; omega
  have hwh : ∀ b o, Wh gb (upd s.heap s.next (some (.row m e []))) b o → Wh gb s.heap b o := by
    rintro b o ⟨id, t, hg, hw⟩
    have hne : id ≠ s.next := fun e => by subst e; rw [hgn] at hg; cases hg
    rw [upd_other (fun e => hne e.symm)] at hw
    exact ⟨id, t, hg, hw⟩
  refine ⟨g.kept, g.ext, g.ok.freshNil, fun b o hlt hw => g.wr0 b o hlt (hwh b o hw), fun b hlt hx => ?_, g.size, g.defers, fun t => (g.slots t).keep (fun b o u hn hc => ⟨hc, ?_⟩) (Ext.refl _)⟩
  · obtain ⟨id, t, hg, hx⟩ := hx
    have hne : id ≠ s.next := fun e => by subst e; rw [hgn] at hg; cases hg
    have hx' : exO (upd s.heap s.next (some (.row m e [])) id) := hx
    rw [upd_other (fun e => hne e.symm)] at hx'
    exact g.x0 b hlt ⟨id, t, hg, hx'⟩
  · rintro (hf | hw)
    · exact hn (.inl hf)
    · exact hn (.inr (hwh b o hw))
/-- An object's content changes, where nobody else reads. -/
theorem wr_chg {id : Nat} {oo oo' : AO} (ho : H id = some oo) (hwr : ∀ k, wrO (some oo') k ↔ wrO (some oo) k) (b o : Nat) : Wr F gb (upd H id (some oo')) b o ↔ Wr F gb H b o := by
  have key : ∀ j, wrO (upd H id (some oo') j) o ↔ wrO (H j) o := fun j => by
    by_cases hj : j = id
    · subst hj; rw [upd_same, ho]; exact hwr o
    · rw [upd_other (fun e => hj e.symm)]
  constructor
  · rintro (hf | ⟨j, t, hg, hw⟩)
    · exact .inl hf
    · exact .inr ⟨j, t, hg, (key j).1 hw⟩
  · rintro (hf | ⟨j, t, hg, hw⟩)
    · exact .inl hf
    · exact .inr ⟨j, t, hg, (key j).2 hw⟩
structure Chg (F : Nat → Nat → Prop) (gb : Gb) (H : Hp) (gg : Nat) (w w' : World) : Prop where
  os : w'.os = w.os
  tape : w'.tape = w.tape
  output : w'.output = w.output
  size : w'.heap.size = w.heap.size
  oth : ∀ k, k ≠ gg → w'.heap[k]? = w.heap[k]?
  cell : ∀ o u, ¬ Wr F gb H gg o → w.cell? ⟨gg, o, none⟩ = some u → w'.cell? ⟨gg, o, none⟩ = some u
  blk : ∀ cur e fr, w.heap[gg]? = some (.cells cur e fr) → ∃ cur', w'.heap[gg]? = some (.cells cur' e fr) ∧ cur'.size = cur.size
theorem Chg.keep {gg : Nat} (hc : Chg F gb H gg w w') (b o : Nat) (u : Value) (hn : ¬ Wr F gb H b o) (hcl : w.cell? ⟨b, o, none⟩ = some u) : w'.cell? ⟨b, o, none⟩ = some u := by
  by_cases hb : b = gg
  · subst hb; exact hc.cell o u hn hcl
  · rw [World.cell?_of_block (w := w) (a := ⟨b, o, none⟩) (hc.oth b hb)]; exact hcl
theorem take_same {cur cur' : Array Value} {m : Nat} (h : ∀ j, j < m → cur'[j]? = cur[j]?) : cur'.toList.take m = cur.toList.take m := by
  apply List.ext_getElem?
  intro j
  by_cases hj : j < m
  · rw [List.getElem?_take_of_lt hj, List.getElem?_take_of_lt hj]; simpa using h j hj
  · rw [List.getElem?_take, List.getElem?_take, if_neg hj, if_neg hj]
theorem HeapOk.change {id gg size : Nat} {oo oo' : AO} (h : HeapOk P w F gb H n) (ho : H id = some oo) (hex : exO (some oo)) (hex' : exO (some oo')) (hwr : ∀ k, wrO (some oo') k ↔ wrO (some oo) k) (hg : gb id = some (gg, size)) (hc : Chg F gb H gg w w')
    (hr : ObjRep P w' (Wr F gb (upd H id (some oo'))) gb gg size oo') : HeapOk P w' F gb (upd H id (some oo')) n := by
  have hw := wr_chg (F := F) (gb := gb) ho hwr
  have hk : ∀ b o u, ¬ Wr F gb H b o → w.cell? ⟨b, o, none⟩ = some u → w'.cell? ⟨b, o, none⟩ = some u ∧ ¬ Wr F gb (upd H id (some oo')) b o := fun b o u hn hcl => ⟨hc.keep b o u hn hcl, fun h => hn ((hw b o).1 h)⟩
  have hex1 : ∀ j, exO (upd H id (some oo') j) → exO (H j) := fun j hj => by
    by_cases hji : j = id
    · subst hji; rw [ho]; exact hex
    · rwa [upd_other (fun e => hji e.symm)] at hj
  refine ⟨fun i g t hi => by rw [hc.size]; exact h.lt i g t hi, fun i hi => ?_, fun i o hi => ?_, fun i j g t t' hi hj hxi hxj => h.one i j g t t' hi hj (hex1 i hxi) (hex1 j hxj), fun b o hf => by rw [hc.size]; exact h.FB b o hf, fun b o hf hx => ?_⟩
  · have := (h.lt id gg size hg).1
    rw [upd_other (by omega)]; exact h.new i hi
  · by_cases hid : i = id
    · subst hid
      rw [upd_same] at hi
      injection hi with hi
      subst hi
      exact .inl ⟨gg, size, hg, hr⟩
    · rw [upd_other (fun e => hid e.symm)] at hi
      rcases h.live i o hi with ⟨g', t, hg', hrr⟩ | hh
      · refine .inl ⟨g', t, hg', ?_⟩
        by_cases hgg : g' = gg
        · subst hgg
          by_cases hxo : exO (some o)
          · exact absurd (h.one i id g' t size hg' hg (by rw [hi]; exact hxo) (by rw [ho]; exact hex)) hid
          · cases o with
            | frz e items =>
              obtain ⟨h0, cur, fr, h1, hf, h2, h3, h4, h5⟩ := hrr
              obtain ⟨cur', h1', h2'⟩ := hc.blk cur e fr h1
              refine ⟨h0, cur', fr, h1', hf, h2'.trans h2, h3, ?_, fun o hlt hwo => h5 o hlt ((hw g' o).1 hwo)⟩
              have : cur'.toList.take items.flatten.length = cur.toList.take items.flatten.length := take_same fun j hj => by
                have hlt : j < cur.size := by omega
                have hcl : w.cell? ⟨g', j, none⟩ = some cur[j] := by simp [World.cell?, h1, hlt]
                have := hc.cell j _ (h5 j hj) hcl
                simp only [World.cell?, h1'] at this
                rw [Array.getElem?_eq_getElem hlt]
                simpa using this
              rw [this]
              exact h4.keep hk (Ext.refl _)
            | _ => exact absurd trivial hxo
        · exact hrr.keep (hc.oth g' hgg) hk (Ext.refl _)
      · exact .inr hh
  · obtain ⟨i, t, hi, hx⟩ := hx
    exact h.FX b o hf ⟨i, t, hi, hex1 i hx⟩
theorem Good.change {id gg size : Nat} {oo oo' : AO} (g : Good P N F w0 gb0 H0 s a w gb) (ho : s.heap id = some oo) (hex : exO (some oo)) (hex' : exO (some oo')) (hwr : ∀ k, wrO (some oo') k ↔ wrO (some oo) k) (hg : gb id = some (gg, size)) (hc : Chg F gb s.heap gg w w')
    (hcw : ∀ o u, w.cell? ⟨gg, o, none⟩ = some u → Wh gb s.heap gg o ∨ w'.cell? ⟨gg, o, none⟩ = some u)
    (hr : ObjRep P w' (Wr F gb (upd s.heap id (some oo'))) gb gg size oo') : Good P N F w0 gb0 H0 (s.chg id (some oo')) a w' gb := by
  have hw := wr_chg (F := F) (gb := gb) ho hwr
  have hwh : ∀ b o, Wh gb (upd s.heap id (some oo')) b o → Wh gb s.heap b o := by
    rintro b o ⟨j, t, hj, hwj⟩
    refine ⟨j, t, hj, ?_⟩
    by_cases hji : j = id
    · subst hji; rw [upd_same] at hwj; rw [ho]; exact (hwr o).1 hwj
    · rwa [upd_other (fun e => hji e.symm)] at hwj
  have hx : Xh gb s.heap gg := ⟨id, size, hg, by rw [ho]; exact hex⟩
  refine ⟨g.kept.trans (X' := fun k => k = gg) (W' := fun b o => b = gg ∧ Wh gb s.heap gg o) ⟨hc.os, hc.tape, hc.output, by rw [hc.size]; exact Nat.le_refl _, fun k _ hk => hc.oth k hk, fun b o u hn hcl => ?_⟩ (fun k hk he => ?_) (fun b o hb hbw => ?_), g.ext, g.ok.change ho hex hex' hwr hg hc hr, fun b o hlt hwb => g.wr0 b o hlt (hwh b o hwb), fun b hlt hxb => ?_, g.size, g.defers, fun t => (g.slots t).keep (fun b o u hn hcl => ⟨hc.keep b o u hn hcl, fun h => hn ((hw b o).1 h)⟩) (Ext.refl _)⟩
  · by_cases hb : b = gg
    · subst hb
      rcases hcw o u hcl with h | h
      · exact absurd ⟨rfl, h⟩ hn
      · exact h
    · rw [World.cell?_of_block (w := w) (a := ⟨b, o, none⟩) (hc.oth b hb)]; exact hcl
  · subst he; exact g.x0 k hk hx
  · obtain ⟨rfl, hbw⟩ := hbw; exact g.wr0 b o hb hbw
  · obtain ⟨j, t, hj, hxj⟩ := hxb
    refine g.x0 b hlt ⟨j, t, hj, ?_⟩
    have hxj' : exO (upd s.heap id (some oo') j) := hxj
    by_cases hji : j = id
    · subst hji; rw [ho]; exact hex
    · rwa [upd_other (fun e => hji e.symm)] at hxj'
end
end Go.Proofs.Ytheanmfdfoefoaa.Hv
