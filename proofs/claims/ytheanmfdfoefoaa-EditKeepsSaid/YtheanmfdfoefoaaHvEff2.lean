/- The walk over an abstract heap, texts HvMem to HvEff2 in one. -/
import Derived.Test.YtheanmfdfoefoaaHvVal4
import Derived.Laws.MakeOwn
set_option linter.unusedVariables false
set_option linter.unusedSimpArgs false
set_option linter.unusedVariables false
set_option linter.unusedSimpArgs false
namespace Go.Proofs.Ytheanmfdfoefoaa.Hv
open Go Go.RowKit

def gbn (gb : Gb) (n : Nat) (p : Nat × Nat) : Gb := fun j => if j = n then some p else gb j
def AS.fresh (s : AS) (oo : AO) : AS := ⟨s.env, upd s.heap s.next (some oo), s.next + 1⟩
def AS.chg (s : AS) (id : Nat) (oo : Option AO) : AS := ⟨s.env, upd s.heap id oo, s.next⟩
section
variable {P : Program} {T : Tbl} {N : Nat} {F : Nat → Nat → Prop} {w0 w w' : World} {gb0 gb gb' : Gb} {H0 H H' : Hp} {s : AS} {a : Act} {n n' : Nat} {W : Nat → Nat → Prop} {o : Oper}
theorem gbn_ext (h : HeapOk P w F gb H n) (p : Nat × Nat) : Ext gb (gbn gb n p) := by
  intro id q hq
  obtain ⟨g, s⟩ := q
  have := (h.lt id g s hq).1
  unfold gbn
  rw [if_neg (by omega)]
  exact hq
/-- What is read for ever stays so when an object comes that lies behind all. -/
theorem fresh_wr (h : HeapOk P w F gb H n) {size : Nat} {oo : AO} {b o : Nat} (hb : b < w.heap.size) (hn : ¬ Wr F gb H b o) : ¬ Wr F (gbn gb n (w.heap.size, size)) (upd H n (some oo)) b o := by
  rintro (hf | ⟨id, s, hg, hw⟩)
  · exact hn (.inl hf)
  · unfold gbn at hg
    split at hg
    · injection hg with hg
      injection hg with e1 e2
      omega
    · rename_i hne
      rw [upd_other (fun e => hne e.symm)] at hw
      exact hn (.inr ⟨id, s, hg, hw⟩)
theorem fresh_keep (h : HeapOk P w F gb H n) (hb : Below w.heap.size w w') {size : Nat} {oo : AO} (b o : Nat) (u : Value) (hn : ¬ Wr F gb H b o) (hc : w.cell? ⟨b, o, none⟩ = some u) : w'.cell? ⟨b, o, none⟩ = some u ∧ ¬ Wr F (gbn gb n (w.heap.size, size)) (upd H n (some oo)) b o :=
  ⟨(hb.cell (p := ⟨_, _, none⟩) (cell_lt hc)).trans hc, fresh_wr h (cell_lt hc) hn⟩
theorem HeapOk.fresh {oo : AO} {size : Nat} (h : HeapOk P w F gb H n) (hb : Below w.heap.size w w') (hs : w.heap.size < w'.heap.size) (hr : ObjRep P w' (Wr F (gbn gb n (w.heap.size, size)) (upd H n (some oo))) (gbn gb n (w.heap.size, size)) w.heap.size size oo) :
    HeapOk P w' F (gbn gb n (w.heap.size, size)) (upd H n (some oo)) (n + 1) := by
  have hat : ∀ {id g t}, gbn gb n (w.heap.size, size) id = some (g, t) → (id = n ∧ g = w.heap.size ∧ t = size) ∨ (id ≠ n ∧ gb id = some (g, t)) := fun {id g t} hg => by
    unfold gbn at hg
    split at hg
    · injection hg with hg
      injection hg with e1 e2
      exact .inl ⟨by assumption, e1.symm, e2.symm⟩
    · exact .inr ⟨by assumption, hg⟩
  refine ⟨fun id g t hg => ?_, fun id hid => ?_, fun id o ho => ?_, fun i j g t t' hi hj hxi hxj => ?_, fun b o hf => Nat.lt_of_lt_of_le (h.FB b o hf) hb.size, fun b o hf hx => ?_⟩
  · rcases hat hg with ⟨rfl, rfl, _⟩ | ⟨_, hg⟩
    · omega
    · have := h.lt id g t hg; omega
  · rw [upd_other (by omega)]
    exact h.new id (by omega)
  · by_cases hid : id = n
    · subst hid
      rw [upd_same] at ho
      injection ho with ho
      subst ho
      exact .inl ⟨w.heap.size, size, by unfold gbn; rw [if_pos rfl], hr⟩
    · rw [upd_other (fun e => hid e.symm)] at ho
      rcases h.live id o ho with ⟨g, t, hg, hrr⟩ | ⟨hg, he⟩
      · exact .inl ⟨g, t, gbn_ext h _ _ _ hg, hrr.keep (hb.block g (h.lt id g t hg).2) (fresh_keep h hb) (gbn_ext h _)⟩
      · exact .inr ⟨by unfold gbn; rw [if_neg hid]; exact hg, he⟩
  · rcases hat hi with ⟨h1, h2, _⟩ | ⟨h1, h2⟩ <;> rcases hat hj with ⟨h3, h4, _⟩ | ⟨h3, h4⟩
    · omega
    · have := (h.lt j g t' h4).2; omega
    · have := (h.lt i g t h2).2; omega
    · rw [upd_other (fun e => h1 e.symm)] at hxi
      rw [upd_other (fun e => h3 e.symm)] at hxj
      exact h.one i j g t t' h2 h4 hxi hxj
  · obtain ⟨id, t, hg, hx⟩ := hx
    have hbl := h.FB b o hf
    rcases hat hg with ⟨_, h2, _⟩ | ⟨h1, h2⟩
    · omega
    · rw [upd_other (fun e => h1 e.symm)] at hx
      exact h.FX b o hf ⟨id, t, h2, hx⟩
theorem Good.fresh {oo : AO} {size : Nat} (g : Good P N F w0 gb0 H0 s a w gb) (hb : Below w.heap.size w w') (hs : w.heap.size < w'.heap.size) (hr : ObjRep P w' (Wr F (gbn gb s.next (w.heap.size, size)) (upd s.heap s.next (some oo))) (gbn gb s.next (w.heap.size, size)) w.heap.size size oo) :
    Good P N F w0 gb0 H0 (s.fresh oo) a w' (gbn gb s.next (w.heap.size, size)) := by
  have hw0 := g.kept.size
  have hat : ∀ {id b t}, gbn gb s.next (w.heap.size, size) id = some (b, t) → b < w0.heap.size → id ≠ s.next ∧ gb id = some (b, t) := fun {id b t} hg hlt => by
    unfold gbn at hg
    split at hg
    · injection hg with hg
      injection hg with e1 e2
      omega
    · exact ⟨by assumption, hg⟩
  refine ⟨g.kept.trans (.of_below (X := fun _ => False) (W := fun _ _ => False) hb) (fun _ _ hx => hx.elim) (fun _ _ _ hx => hx.elim), g.ext.trans (gbn_ext g.ok _), g.ok.fresh hb hs hr, fun b o hlt hw => ?_, fun b hlt hx => ?_, g.size, g.defers, fun t => ?_⟩
  · obtain ⟨id, t, hg, hw⟩ := hw
    obtain ⟨h1, h2⟩ := hat hg hlt
    have hw' : wrO (upd s.heap s.next (some oo) id) o := hw
    rw [upd_other (fun e => h1 e.symm)] at hw'
    exact g.wr0 b o hlt ⟨id, t, h2, hw'⟩
  · obtain ⟨id, t, hg, hx⟩ := hx
    obtain ⟨h1, h2⟩ := hat hg hlt
    have hx' : exO (upd s.heap s.next (some oo) id) := hx
    rw [upd_other (fun e => h1 e.symm)] at hx'
    exact g.x0 b hlt ⟨id, t, h2, hx'⟩
  · exact (g.slots t).keep (fresh_keep g.ok hb) (gbn_ext g.ok _)
/-- A row without a block. -/
theorem HeapOk.freshNil {m : Bool} {e : TypeId} (h : HeapOk P w F gb H n) : HeapOk P w F gb (upd H n (some (.row m e []))) (n + 1) := by
  have hgn : gb n = none := by
    cases hg : gb n with
    | none => rfl
    | some p => obtain ⟨g, t⟩ := p; have := (h.lt n g t hg).1; omega
  have hwr : ∀ b o, Wr F gb (upd H n (some (.row m e []))) b o → Wr F gb H b o := by
    rintro b o (hf | ⟨id, t, hg, hw⟩)
    · exact .inl hf
    · have hne : id ≠ n := fun e => by subst e; rw [hgn] at hg; cases hg
      rw [upd_other (fun e => hne e.symm)] at hw
      exact .inr ⟨id, t, hg, hw⟩
  refine ⟨fun id g t hg => ⟨Nat.lt_succ_of_lt (h.lt id g t hg).1, (h.lt id g t hg).2⟩, fun id hid => ?_, fun id o ho => ?_, fun i j g t t' hi hj hxi hxj => ?_, h.FB, fun b o hf hx => ?_⟩
  · rw [upd_other (by omega)]; exact h.new id (by omega)
  · by_cases hid : id = n
    · subst hid
      rw [upd_same] at ho
      injection ho with ho
      subst ho
      exact .inr ⟨hgn, m, e, rfl⟩
    · rw [upd_other (fun e => hid e.symm)] at ho
      rcases h.live id o ho with ⟨g, t, hg, hrr⟩ | hh
      · exact .inl ⟨g, t, hg, hrr.keep rfl (fun b o u hn hc => ⟨hc, fun hw => hn (hwr b o hw)⟩) (Ext.refl _)⟩
      · exact .inr hh
  · have hi' : i ≠ n := fun e => by subst e; rw [hgn] at hi; cases hi
    have hj' : j ≠ n := fun e => by subst e; rw [hgn] at hj; cases hj
    rw [upd_other (fun e => hi' e.symm)] at hxi
    rw [upd_other (fun e => hj' e.symm)] at hxj
    exact h.one i j g t t' hi hj hxi hxj
  · obtain ⟨id, t, hg, hx⟩ := hx
    have hne : id ≠ n := fun e => by subst e; rw [hgn] at hg; cases hg
    rw [upd_other (fun e => hne e.symm)] at hx
    exact h.FX b o hf ⟨id, t, hg, hx⟩
theorem Good.freshNil {m : Bool} {e : TypeId} (g : Good P N F w0 gb0 H0 s a w gb) : Good P N F w0 gb0 H0 (s.fresh (.row m e [])) a w gb := by
  have h := g.ok
  have hgn : gb s.next = none := by
    cases hg : gb s.next with
    | none => rfl
    | some p => obtain ⟨b, t⟩ := p; have := (h.lt s.next b t hg).1; omega
  have hwh : ∀ b o, Wh gb (upd s.heap s.next (some (.row m e []))) b o → Wh gb s.heap b o := by
    rintro b o ⟨id, t, hg, hw⟩
    have hne : id ≠ s.next := fun e => by subst e; rw [hgn] at hg; cases hg
    rw [upd_other (fun e => hne e.symm)] at hw
    exact ⟨id, t, hg, hw⟩
  refine ⟨g.kept, g.ext, g.ok.freshNil, fun b o hlt hw => g.wr0 b o hlt (hwh b o hw), fun b hlt hx => ?_, g.size, g.defers, fun t => (g.slots t).keep (fun b o u hn hc => ⟨hc, ?_⟩) (Ext.refl _)⟩
  · obtain ⟨id, t, hg, hx⟩ := hx
    have hne : id ≠ s.next := fun e => by subst e; rw [hgn] at hg; cases hg
    have hx' : exO (upd s.heap s.next (some (.row m e [])) id) := hx
    rw [upd_other (fun e => hne e.symm)] at hx'
    exact g.x0 b hlt ⟨id, t, hg, hx'⟩
  · rintro (hf | hw)
    · exact hn (.inl hf)
    · exact hn (.inr (hwh b o hw))
/-- An object's content changes, where nobody else reads. -/
theorem wr_chg {id : Nat} {oo oo' : AO} (ho : H id = some oo) (hwr : ∀ k, wrO (some oo') k ↔ wrO (some oo) k) (b o : Nat) : Wr F gb (upd H id (some oo')) b o ↔ Wr F gb H b o := by
  have key : ∀ j, wrO (upd H id (some oo') j) o ↔ wrO (H j) o := fun j => by
    by_cases hj : j = id
    · subst hj; rw [upd_same, ho]; exact hwr o
    · rw [upd_other (fun e => hj e.symm)]
  constructor
  · rintro (hf | ⟨j, t, hg, hw⟩)
    · exact .inl hf
    · exact .inr ⟨j, t, hg, (key j).1 hw⟩
  · rintro (hf | ⟨j, t, hg, hw⟩)
    · exact .inl hf
    · exact .inr ⟨j, t, hg, (key j).2 hw⟩
structure Chg (F : Nat → Nat → Prop) (gb : Gb) (H : Hp) (gg : Nat) (w w' : World) : Prop where
  os : w'.os = w.os
  tape : w'.tape = w.tape
  output : w'.output = w.output
  size : w'.heap.size = w.heap.size
  oth : ∀ k, k ≠ gg → w'.heap[k]? = w.heap[k]?
  cell : ∀ o u, ¬ Wr F gb H gg o → w.cell? ⟨gg, o, none⟩ = some u → w'.cell? ⟨gg, o, none⟩ = some u
  blk : ∀ cur e fr, w.heap[gg]? = some (.cells cur e fr) → ∃ cur', w'.heap[gg]? = some (.cells cur' e fr) ∧ cur'.size = cur.size
theorem Chg.self (gg : Nat) : Chg F gb H gg w w := ⟨rfl, rfl, rfl, rfl, fun _ _ => rfl, fun _ _ _ h => h, fun cur e fr h => ⟨cur, h, rfl⟩⟩
theorem Chg.keep {gg : Nat} (hc : Chg F gb H gg w w') (b o : Nat) (u : Value) (hn : ¬ Wr F gb H b o) (hcl : w.cell? ⟨b, o, none⟩ = some u) : w'.cell? ⟨b, o, none⟩ = some u := by
  by_cases hb : b = gg
  · subst hb; exact hc.cell o u hn hcl
  · rw [World.cell?_of_block (w := w) (a := ⟨b, o, none⟩) (hc.oth b hb)]; exact hcl
theorem take_same {cur cur' : Array Value} {m : Nat} (h : ∀ j, j < m → cur'[j]? = cur[j]?) : cur'.toList.take m = cur.toList.take m := by
  apply List.ext_getElem?
  intro j
  by_cases hj : j < m
  · rw [List.getElem?_take_of_lt hj, List.getElem?_take_of_lt hj]; simpa using h j hj
  · rw [List.getElem?_take, List.getElem?_take, if_neg hj, if_neg hj]
theorem HeapOk.change {id gg size : Nat} {oo oo' : AO} (h : HeapOk P w F gb H n) (ho : H id = some oo) (hex : exO (some oo)) (hex' : exO (some oo')) (hwr : ∀ k, wrO (some oo') k ↔ wrO (some oo) k) (hg : gb id = some (gg, size)) (hc : Chg F gb H gg w w')
    (hr : ObjRep P w' (Wr F gb (upd H id (some oo'))) gb gg size oo') : HeapOk P w' F gb (upd H id (some oo')) n := by
  have hw := wr_chg (F := F) (gb := gb) ho hwr
  have hk : ∀ b o u, ¬ Wr F gb H b o → w.cell? ⟨b, o, none⟩ = some u → w'.cell? ⟨b, o, none⟩ = some u ∧ ¬ Wr F gb (upd H id (some oo')) b o := fun b o u hn hcl => ⟨hc.keep b o u hn hcl, fun h => hn ((hw b o).1 h)⟩
  have hex1 : ∀ j, exO (upd H id (some oo') j) → exO (H j) := fun j hj => by
    by_cases hji : j = id
    · subst hji; rw [ho]; exact hex
    · rwa [upd_other (fun e => hji e.symm)] at hj
  refine ⟨fun i g t hi => by rw [hc.size]; exact h.lt i g t hi, fun i hi => ?_, fun i o hi => ?_, fun i j g t t' hi hj hxi hxj => h.one i j g t t' hi hj (hex1 i hxi) (hex1 j hxj), fun b o hf => by rw [hc.size]; exact h.FB b o hf, fun b o hf hx => ?_⟩
  · have := (h.lt id gg size hg).1
    rw [upd_other (by omega)]; exact h.new i hi
  · by_cases hid : i = id
    · subst hid
      rw [upd_same] at hi
      injection hi with hi
      subst hi
      exact .inl ⟨gg, size, hg, hr⟩
    · rw [upd_other (fun e => hid e.symm)] at hi
      rcases h.live i o hi with ⟨g', t, hg', hrr⟩ | hh
      · refine .inl ⟨g', t, hg', ?_⟩
        by_cases hgg : g' = gg
        · subst hgg
          by_cases hxo : exO (some o)
          · exact absurd (h.one i id g' t size hg' hg (by rw [hi]; exact hxo) (by rw [ho]; exact hex)) hid
          · cases o with
            | frz e items =>
              obtain ⟨h0, cur, fr, h1, hf, h2, h3, h4, h5⟩ := hrr
              obtain ⟨cur', h1', h2'⟩ := hc.blk cur e fr h1
              refine ⟨h0, cur', fr, h1', hf, h2'.trans h2, h3, ?_, fun o hlt hwo => h5 o hlt ((hw g' o).1 hwo)⟩
              have : cur'.toList.take items.flatten.length = cur.toList.take items.flatten.length := take_same fun j hj => by
                have hlt : j < cur.size := by omega
                have hcl : w.cell? ⟨g', j, none⟩ = some cur[j] := by simp [World.cell?, h1, hlt]
                have := hc.cell j _ (h5 j hj) hcl
                simp only [World.cell?, h1'] at this
                rw [Array.getElem?_eq_getElem hlt]
                simpa using this
              rw [this]
              exact h4.keep hk (Ext.refl _)
            | _ => exact absurd trivial hxo
        · exact hrr.keep (hc.oth g' hgg) hk (Ext.refl _)
      · exact .inr hh
  · obtain ⟨i, t, hi, hx⟩ := hx
    exact h.FX b o hf ⟨i, t, hi, hex1 i hx⟩
theorem Good.change {id gg size : Nat} {oo oo' : AO} (g : Good P N F w0 gb0 H0 s a w gb) (ho : s.heap id = some oo) (hex : exO (some oo)) (hex' : exO (some oo')) (hwr : ∀ k, wrO (some oo') k ↔ wrO (some oo) k) (hg : gb id = some (gg, size)) (hc : Chg F gb s.heap gg w w')
    (hcw : ∀ o u, w.cell? ⟨gg, o, none⟩ = some u → Wh gb s.heap gg o ∨ w'.cell? ⟨gg, o, none⟩ = some u)
    (hr : ObjRep P w' (Wr F gb (upd s.heap id (some oo'))) gb gg size oo') : Good P N F w0 gb0 H0 (s.chg id (some oo')) a w' gb := by
  have hw := wr_chg (F := F) (gb := gb) ho hwr
  have hwh : ∀ b o, Wh gb (upd s.heap id (some oo')) b o → Wh gb s.heap b o := by
    rintro b o ⟨j, t, hj, hwj⟩
    refine ⟨j, t, hj, ?_⟩
    by_cases hji : j = id
    · subst hji; rw [upd_same] at hwj; rw [ho]; exact (hwr o).1 hwj
    · rwa [upd_other (fun e => hji e.symm)] at hwj
  have hx : Xh gb s.heap gg := ⟨id, size, hg, by rw [ho]; exact hex⟩
  refine ⟨g.kept.trans (X' := fun k => k = gg) (W' := fun b o => b = gg ∧ Wh gb s.heap gg o) ⟨hc.os, hc.tape, hc.output, by rw [hc.size]; exact Nat.le_refl _, fun k _ hk => hc.oth k hk, fun b o u hn hcl => ?_⟩ (fun k hk he => ?_) (fun b o hb hbw => ?_), g.ext, g.ok.change ho hex hex' hwr hg hc hr, fun b o hlt hwb => g.wr0 b o hlt (hwh b o hwb), fun b hlt hxb => ?_, g.size, g.defers, fun t => (g.slots t).keep (fun b o u hn hcl => ⟨hc.keep b o u hn hcl, fun h => hn ((hw b o).1 h)⟩) (Ext.refl _)⟩
  · by_cases hb : b = gg
    · subst hb
      rcases hcw o u hcl with h | h
      · exact absurd ⟨rfl, h⟩ hn
      · exact h
    · rw [World.cell?_of_block (w := w) (a := ⟨b, o, none⟩) (hc.oth b hb)]; exact hcl
  · subst he; exact g.x0 k hk hx
  · obtain ⟨rfl, hbw⟩ := hbw; exact g.wr0 b o hb hbw
  · obtain ⟨j, t, hj, hxj⟩ := hxb
    refine g.x0 b hlt ⟨j, t, hj, ?_⟩
    have hxj' : exO (upd s.heap id (some oo') j) := hxj
    by_cases hji : j = id
    · subst hji; rw [ho]; exact hex
    · rwa [upd_other (fun e => hji e.symm)] at hxj'
end
end Go.Proofs.Ytheanmfdfoefoaa.Hv
set_option linter.unusedVariables false
set_option linter.unusedSimpArgs false
namespace Go.Proofs.Ytheanmfdfoefoaa.Hv
open Go Go.RowKit

/-- Which slots outlive a region; whose rows may be written in; which cuts of rows shorten them; schedules; ahead of which regions a walk is cut in two; which new rows' room is told. -/
structure Vis where
  keep : List Nat
  muts : List Nat := []
  cut : List Nat := []
  sch : List (Nat × List (Nat × List Nat × List Nat)) := []
  stops : List Nat := []
  caps : List Nat := []
def isNilO : Operand → Bool | .const v => isNilV v | _ => false
def szN : Option Nat → Nat | none => 1 | some n => n
def bsItems (ρ : Operand → AV) (parts : List (Nat × Operand)) : List (List AV) := parts.map fun p => (ρ p.2).cells
def byteA (b : UInt8) : List AV := [.lit (.int .u8 b.toNat)]
def bytesA (s : ByteArray) : List (List AV) := s.data.toList.map byteA
def zeroA (z : Value) : List AV := z.cells.toList.map .lit
/-- The operations that change the heap, but for append and calls. -/
def feff (T : Tbl) (A : Vis) (o : Oper) (s : AS) : Option AS :=
  match o.op with
  | .box _ x => match o.dst with
    | some d => if (s.eval x).cells.all AV.isOne = true then some ((s.fresh (.cells (s.eval x).cells)).set d (.ptr s.next 0)) else none
    | none => none
  | .alloc e => match o.dst, lk? T.zeros e with
    | some d, some z => if (zeroA z).all AV.isOne = true then some ((s.fresh (.cells (zeroA z))).set d (.ptr s.next 0)) else none
    | _, _ => none
  | .buildSlice t n parts => match o.dst, lk? T.sls t with
    | some d, some I => if parts.toList.map (·.1) = List.range n ∧ n * I.size ≤ 16777216 ∧ ∀ it ∈ bsItems s.eval parts.toList, it.length = I.size ∧ it.all AV.isOne = true then some ((s.fresh (.row (A.muts.elem d) I.e (bsItems s.eval parts.toList))).set d (.rw s.next I.size 0 n)) else none
    | _, _ => none
  | .makeSlice t l c => match o.dst, lk? T.sls t, (s.eval l).int?, (s.eval c).int? with
    | some d, some I, some (_, l), some (_, c) => if (0 ≤ l ∧ l ≤ c ∧ I.bytes * c ≤ bif A.caps.elem d then 281474976710656 else 140737488355328) ∧ (zeroA I.zero).all AV.isOne = true then (bif A.caps.elem d then some ((s.fresh (.row true I.e (List.replicate c.toNat (zeroA I.zero)))).set d (.rc s.next I.size l.toNat c.toNat)) else some ((s.fresh (.row (A.muts.elem d) I.e (List.replicate l.toNat (zeroA I.zero)))).set d (.rw s.next I.size 0 l.toNat))) else none
    | _, _, _, _ => none
  | .makeMap t none => match o.dst, lk? T.maps t with
    | some d, some _ => some ((s.fresh (.map [] 0)).set d (.mp s.next))
    | _, _ => none
  | .range t x => match o.dst, lk? T.maps t, s.eval x with
    | some d, some _, .mp id => match s.heap id with
      | some (.map _ clock) => some ((s.fresh (.iter (some id) clock [] clock)).set d (.ptr s.next 0))
      | _ => none
    | _, _, _ => none
  | .convert t0 t x => match o.dst, s.eval x, lk? T.sls t with
    | some d, .lit (.string u), some I => bif T.strs.elem t0 && T.byts.elem t && Nat.ble u.size 140737488355328 then some ((s.fresh (.row (A.muts.elem d) I.e (bytesA u))).set d (.rw s.next 1 0 u.size)) else none
    | some d, .rw id sz ko len, some _ => match s.heap id with
      | some (.row _ _ _) => if (t0 = t ∧ T.byts.elem t = true) ∧ 0 < len then some (s.set d (.rw id sz ko len)) else none
      | _ => none
    | _, _, _ => none
  | .store t p x => match lk? T.szs t, s.eval p with
    | some z, .ptr id off => match s.heap id with
      | some (.cells cs) => if (s.eval x).cells.all AV.isOne = true ∧ (s.eval x).cells.length = szN z ∧ off + szN z ≤ cs.length then some ((s.chg id (some (.cells (setR cs off (s.eval x).cells)))).put o.dst .dead) else none
      | _ => none
    | some z, .el id sz k off => match s.heap id with
      | some (.row true e items) => match items[k]? with
        | some it => if ((s.eval x).cells.all AV.isOne = true ∧ it.length = sz) ∧ (s.eval x).cells.length = szN z ∧ off + szN z ≤ it.length then some ((s.chg id (some (.row true e (items.set k (setR it off (s.eval x).cells))))).put o.dst .dead) else none
        | none => none
      | _ => none
    | some z, .ec id sz k => match s.heap id with
      | some (.row true e items) => if ((s.eval x).cells.all AV.isOne = true ∧ items.length = k) ∧ (s.eval x).cells.length = szN z ∧ szN z = sz ∧ t = e then some ((s.chg id (some (.row true e (items ++ [(s.eval x).cells])))).put o.dst .dead) else none
      | _ => none
    | _, _ => none
  | .mapUpdate t m k x => match lk? T.maps t, s.eval m with
    | some I, .mp id => bif keyKindH T s.heap I.key (s.eval k) then (match s.heap id with
      | some (.map es clock) => match kfind s.heap (s.eval k) es with
        | some (some (i, _)) => match es[i]? with
          | some e => some ((s.chg id (some (.map (es.set i ⟨s.eval k, s.eval x, e.born⟩) clock))).put o.dst .dead)
          | none => none
        | some none => some ((s.chg id (some (.map (es ++ [⟨s.eval k, s.eval x, clock⟩]) (clock + 1)))).put o.dst .dead)
        | none => none
      | _ => none) else none
    | _, _ => none
  | .slice t x none (some hi) (some mx) => match o.dst, lk? T.sls t, s.eval x, (s.eval hi).int?, (s.eval mx).int? with
    | some d, some I, .rw id sz 0 len, some (_, h), some (_, m) => match s.heap id with
      | some (.row true e items) => if (0 ≤ h ∧ h = m ∧ h ≤ len ∧ len ≤ items.length) ∧ sz = I.size then some ((s.chg id (some (.row true e (items.take h.toNat)))).set d (.rw id sz 0 h.toNat)) else none
      | _ => none
    | _, _, _, _, _ => none
  | .call c => match c.callee, c.args.toList, c.argTypes.toList with
    | .builtin .delete, [m, k], t :: _ => match lk? T.maps t, s.eval m with
      | some I, .mp id => bif keyKindH T s.heap I.key (s.eval k) then (match s.heap id with
        | some (.map es clock) => match kfind s.heap (s.eval k) es with
          | some (some (i, _)) => some ((s.chg id (some (.map (es.eraseIdx i) clock))).put o.dst (.tup []))
          | some none => some ((s.chg id (some (.map es clock))).put o.dst (.tup []))
          | none => none
        | _ => none) else none
      | _, _ => none
    | _, _, _ => none
  | _ => none
section
variable {P : Program} {T : Tbl} {A : Vis} {N : Nat} {F : Nat → Nat → Prop} {w0 w w' : World} {gb0 gb gb' : Gb} {H0 H H' : Hp} {s s' : AS} {a : Act} {n n' : Nat} {W : Nat → Nat → Prop} {o : Oper} {K : Act → World → Prop} {Q : Exit → Act → World → Prop}
theorem wp_val {v : Value} (h : (execOp a.eval o).run P w = .ok (.value v) w') (hK : K (a.put o.dst v) w') : o.wp P a w K Q := by
  unfold Oper.wp
  rw [h]
  exact hK
theorem wp_skp (h : (execOp a.eval o).run P w = .ok .skip w') (hK : K (a.put o.dst undef) w') : o.wp P a w K Q := by
  unfold Oper.wp
  rw [h, Oper.upon_skip]
  exact hK
theorem alloc_below (w : World) (ob : Obj) : Below w.heap.size w (w.alloc ob) ∧ w.heap.size < (w.alloc ob).heap.size ∧ (w.alloc ob).heap[w.heap.size]? = some ob :=
  ⟨(Below.refl _ _).alloc (Nat.le_refl _) _, by rw [hp_alloc]; simp, heap_alloc_new w _⟩
theorem dalloc_below (w : World) (ob : Obj) : Below w.heap.size w (w.drew.alloc ob) ∧ w.heap.size < (w.drew.alloc ob).heap.size ∧ (w.drew.alloc ob).heap[w.heap.size]? = some ob :=
  ⟨((Below.refl _ w).drew).alloc (Nat.le_refl _) _, by rw [hp_alloc]; simp, heap_alloc_new w.drew _⟩
theorem cold0 (size : Nat) : Cold size (0, 0) := .inl rfl
/-- A new variable. -/
theorem Good.freshCells {cs : List AV} {us : Array Value} {e : TypeId} (g : Good P N F w0 gb0 H0 s a w gb) (hr : RepL w (Wr F gb s.heap) gb cs us.toList) (hb : Below w.heap.size w w') (hs : w.heap.size < w'.heap.size) (hblk : w'.heap[w.heap.size]? = some (.cells us e (0, 0))) :
    Good P N F w0 gb0 H0 (s.fresh (.cells cs)) a w' (gbn gb s.next (w.heap.size, us.size)) :=
  g.fresh hb hs ⟨us, e, (0, 0), hblk, rfl, rfl, hr.keep (fresh_keep g.ok hb) (gbn_ext g.ok _)⟩
/-- A new row. -/
theorem Good.freshRow {m : Bool} {items : List (List AV)} {us : Array Value} {e : TypeId} {fr : Nat × Nat} (g : Good P N F w0 gb0 H0 s a w gb) (hi : ∀ it ∈ items, it.length = szOf P e) (hlen : items.flatten.length ≤ us.size) (hf : Cold us.size fr) (hr : RepL w (Wr F gb s.heap) gb items.flatten (us.toList.take items.flatten.length)) (hb : Below w.heap.size w w') (hs : w.heap.size < w'.heap.size) (hblk : w'.heap[w.heap.size]? = some (.cells us e fr)) :
    Good P N F w0 gb0 H0 (s.fresh (.row m e items)) a w' (gbn gb s.next (w.heap.size, us.size)) :=
  g.fresh hb hs ⟨hi, us, fr, hblk, hf, rfl, hlen, hr.keep (fresh_keep g.ok hb) (gbn_ext g.ok _)⟩
theorem gbn_at (gb : Gb) (n : Nat) (p : Nat × Nat) : gbn gb n p n = some p := by unfold gbn; rw [if_pos rfl]
theorem szOf_sl {t : Nat} {I : SlI} (hT : T.Ok P) (hI : lk? T.sls t = some I) : szOf P I.e = I.size := by
  obtain ⟨_, ⟨i, hi, _, hs, _⟩, _⟩ := sls_ok hT hI
  simp [szOf, hi, hs]
theorem run_storeC (P : Program) (g o : Nat) (t : TypeId) {fr : Nat × Nat} : ∀ (vs : List Value) (i : Nat) (cur : Array Value) (w : World), w.heap[g]? = some (.cells cur t fr) → Cold cur.size fr → o + i + vs.length ≤ cur.size → (∀ v ∈ vs, v.oneCell' = true) →
    (storeCells ⟨g, o, none⟩ vs i).run P w = .ok () (w.setRow g (cur.toList.take (o + i) ++ vs ++ cur.toList.drop (o + i + vs.length)).toArray)
  | [], i, cur, w, hg, _, _, _ => by
    simp only [storeCells, List.append_nil, List.length_nil, Nat.add_zero, List.take_append_drop, Array.toArray_toList]
    rw [setRow_self w g cur t fr hg]
    rfl
  | v :: rest, i, cur, w, hg, hf, hl, h1 => by
    have hi : o + i < cur.size := by simp at hl; omega
    have hadd : (⟨g, o, none⟩ : Addr).add i = ⟨g, o + i, none⟩ := by unfold Addr.add; split <;> simp_all
    have hcell : w.cell? ⟨g, o + i, none⟩ = some cur[o + i] := by simp [World.cell?, hg, hi]
    have hfro : w.frozen? ⟨g, o + i, none⟩ = false := by
      simp only [World.frozen?, hg]
      rcases hf with h | h
      · simp; omega
      · simp; omega
    have hst : (store ((⟨g, o, none⟩ : Addr).add i) v).run P w = .ok () (w.setRow g (cur.setIfInBounds (o + i) v)) := by
      rw [hadd, run_store P w _ v _ (h1 v (by simp)), hcell]
      simp [hfro, setCell_eq_setRow w g (o + i) cur t fr v hg]
    have ih := run_storeC P g o t rest (i + 1) (cur.setIfInBounds (o + i) v) (w.setRow g (cur.setIfInBounds (o + i) v)) (setRow_heap w g cur _ t _ hg) (by simpa using hf) (by simp at hl ⊢; omega) (fun x hx => h1 x (by simp [hx]))
    simp only [storeCells, Sem.run_bind, hst, Result.andThen_ok, ih, setRow_setRow]
    congr 3
    have e := list_seg_step cur.toList (o + i) v rest (by simp at hl ⊢; omega)
    simpa [Array.toList_setIfInBounds, Nat.add_assoc] using e
/-- A block's cells are written where all of them may be. -/
theorem chg_row {id gg : Nat} {cur cur' : Array Value} {e : TypeId} {fr : Nat × Nat} (hw : ∀ o, Wh gb H gg o) (hblk : w.heap[gg]? = some (.cells cur e fr)) (hsz : cur'.size = cur.size) : Chg F gb H gg w (w.setRow gg cur') :=
  ⟨rfl, rfl, rfl, by simp, fun k hk => setRow_other w gg k _ hk, fun o u hn _ => absurd (Or.inr (hw o)) hn, fun c e' fr' h => ⟨cur', by rw [hblk] at h; injection h with h; injection h with e1 e2 e3; subst e1 e2 e3; exact ⟨setRow_heap w gg _ _ _ _ hblk, hsz⟩⟩⟩
theorem chg_keep {id gg : Nat} {oo oo' : AO} (ho : H id = some oo) (hwr : ∀ k, wrO (some oo') k ↔ wrO (some oo) k) (hc : Chg F gb H gg w w') (b o : Nat) (u : Value) (hn : ¬ Wr F gb H b o) (hcl : w.cell? ⟨b, o, none⟩ = some u) : w'.cell? ⟨b, o, none⟩ = some u ∧ ¬ Wr F gb (upd H id (some oo')) b o :=
  ⟨hc.keep b o u hn hcl, fun h => hn ((wr_chg ho hwr b o).1 h)⟩
theorem run_storeAt {t : TypeId} {gg off : Nat} {v : Value} {cur : Array Value} {e : TypeId} {fr : Nat × Nat} {z : Option Nat} (hT : T.Ok P) (hz : lk? T.szs t = some z) (hblk : w.heap[gg]? = some (.cells cur e fr)) (hf : Cold cur.size fr) (hl : v.cells.size = szN z) (hfit : off + szN z ≤ cur.size) (h1 : ∀ u ∈ v.cells.toList, u.oneCell' = true) :
    (Instr.storeAt t (.pointer (some ⟨gg, off, none⟩)) v).run P w = .ok () (w.setRow gg (cur.toList.take off ++ v.cells.toList ++ cur.toList.drop (off + v.cells.toList.length)).toArray) := by
  have hsz : (P.info? t).map (·.size) = some (szN z) := by
    have := hT.szs _ (lk?_mem hz)
    unfold okSz at this
    cases z <;> exact this.2
  have := run_storeC P gg off e v.cells.toList 0 cur w hblk hf (by rw [Array.length_toList, hl]; simpa using hfit) h1
  simp only [Nat.add_zero] at this
  simp only [Instr.storeAt, Instr.sureAddr, storeVar, Sem.run_bind, Sem.run_pure, Result.andThen_ok, run_size_some hsz, hl, ne_eq, not_true_eq_false, if_false, this]
theorem AS.chg_put {d : Option Nat} {x : AV} {id : Nat} {oo : Option AO} : (s.chg id oo).put d x = (s.put d x).chg id oo := by cases d <;> rfl
theorem setR_len {l : List AV} {off : Nat} {cs : List AV} (h : off + cs.length ≤ l.length) : (setR l off cs).length = l.length := by
  unfold setR
  simp only [List.length_append, List.length_take, List.length_drop]
  omega
theorem flatten_set : ∀ {items : List (List AV)} {sz k off : Nat} {it cs : List AV}, (∀ it ∈ items, it.length = sz) → items[k]? = some it → off + cs.length ≤ sz → (items.set k (setR it off cs)).flatten = setR items.flatten (k * sz + off) cs := by
  intro items
  induction items with
  | nil => intro sz k off it cs _ h; simp at h
  | cons i items ih =>
    intro sz k off it cs hi hk hl
    have h0 := hi i (by simp)
    cases k with
    | zero =>
      simp only [List.getElem?_cons_zero, Option.some.injEq] at hk
      subst hk
      simp only [List.set_cons_zero, List.flatten_cons, setR, Nat.zero_mul, Nat.zero_add]
      rw [List.take_append_of_le_length (by omega), List.drop_append_of_le_length (by omega)]
      simp
    | succ k =>
      simp only [List.set_cons_succ, List.flatten_cons]
      rw [ih (fun it h => hi it (by simp [h])) (by simpa using hk) hl]
      unfold setR
      have e1 : (k + 1) * sz + off = i.length + (k * sz + off) := by rw [h0, Nat.succ_mul]; omega
      rw [e1, Nat.add_assoc i.length, List.take_length_add_append, List.drop_length_add_append]
      simp
theorem s_store {t : TypeId} {p x : Operand} (hop : o.op = .store t p x) (hT : T.Ok P) (h : feff T A o s = some s') (g : Good P N F w0 gb0 H0 s a w gb) (hd : ∀ k, o.dst = some k → k < N) (hK : ∀ a' w', R P N F w0 gb0 H0 s' a' w' → K a' w') : o.wp P a w K Q := by
  unfold feff at h
  simp only [hop] at h
  have hp := g.eval p
  split at h
  · rename_i z id off hz hpe
    split at h
    · rename_i cs ho
      split at h
      · rename_i hc
        obtain ⟨h1, h2, h3⟩ := hc
        simp only [Option.some.injEq] at h
        subst h
        have hx := rep_cells (g.eval x) h1
        rw [hpe] at hp
        generalize hv : a.eval p = v at hp
        cases hp with
        | ptr _ _ gg size hg =>
          rcases g.ok.live id _ ho with ⟨g', size', hg', cur, e, fr, hblk, hf, hcs, hrl⟩ | ⟨_, m, e, he⟩
          · rw [hg] at hg'
            injection hg' with hg'
            injection hg' with e1 e2
            subst e1 e2 hcs
            have hvl : (a.eval x).cells.size = szN z := by rw [← Array.length_toList, ← hx.len]; exact h2
            have hcl : cs.length = cur.size := by rw [hrl.len]; simp
            have hrun := run_storeAt hT hz hblk (hf.cold _) hvl (by rw [← hcl]; exact h3) hx.one
            have hL := hrl.setR hx off
            have hwh : ∀ o, Wh gb s.heap gg o := fun o => ⟨id, cur.size, hg, by rw [ho]; trivial⟩
            obtain ⟨cur', hcur'⟩ : ∃ cur' : Array Value, cur' = (cur.toList.take off ++ (a.eval x).cells.toList ++ cur.toList.drop (off + (a.eval x).cells.toList.length)).toArray := ⟨_, rfl⟩
            rw [← hcur'] at hrun
            have hsz : cur'.size = cur.size := by
              have := hL.len
              rw [setR_len (by rw [h2]; exact h3)] at this
              rw [hcur', List.size_toArray, ← this, hcl]
            have hch := chg_row (F := F) (id := id) hwh hblk hsz
            refine wp_skp (w' := w.setRow gg cur') (by unfold execOp; simp only [hop, hv]; rw [Sem.run_bind, hrun]; rfl) (hK _ _ ⟨gb, ?_⟩)
            refine (g.change (oo' := .cells (setR cs off (s.eval x).cells)) ho trivial trivial (fun k => Iff.rfl) hg hch (fun o u _ => .inl (hwh o)) ?_).put hd (.dead _)
            refine ⟨cur', e, fr, setRow_heap w gg cur _ e _ hblk, hf, hsz, ?_⟩
            have e : cur'.toList = cur.toList.take off ++ (a.eval x).cells.toList ++ cur.toList.drop (off + (a.eval x).cells.toList.length) := by rw [hcur']
            rw [e]
            exact hL.keep (chg_keep (oo' := .cells (setR cs off (s.eval x).cells)) ho (fun k => Iff.rfl) hch) (Ext.refl _)
          · cases he
      · cases h
    · cases h
  · rename_i z id sz k off hz hpe
    split at h
    · rename_i e items ho
      split at h
      · rename_i it hit
        split at h
        · rename_i hc
          obtain ⟨⟨h1, h1'⟩, h2, h3⟩ := hc
          simp only [Option.some.injEq] at h
          subst h
          have hx := rep_cells (g.eval x) h1
          rw [hpe] at hp
          generalize hv : a.eval p = v at hp
          cases hp with
          | el _ _ _ _ gg size hg =>
            obtain ⟨h0, hbk⟩ := g.ok.rowAt ho (.inl ⟨true, rfl⟩)
            have hP : szOf P e = sz := by rw [← h0 it (List.mem_of_getElem? hit)]; exact h1'
            rcases hbk with ⟨hn, _⟩ | ⟨g', size', cur, fr, hg', hblk, hf, hcs, hle, hrl, _⟩
            · rw [hn] at hg; cases hg
            · rw [hg] at hg'
              injection hg' with hg'
              injection hg' with e1 e2
              subst e1 e2 hcs
              have hvl : (a.eval x).cells.size = szN z := by rw [← Array.length_toList, ← hx.len]; exact h2
              have hkl : k < items.length := (List.getElem?_eq_some_iff.1 hit).1
              have hfl := flatten_len h0
              rw [hP] at hfl
              have hkk : k * sz + sz ≤ items.flatten.length := by rw [hfl, ← Nat.succ_mul]; exact Nat.mul_le_mul_right _ hkl
              have hrun := run_storeAt (off := k * sz + off) hT hz hblk hf hvl (by omega) hx.one
              have hfs := flatten_set (cs := (s.eval x).cells) (fun it h => (h0 it h).trans hP) hit (off := off) (by rw [h2, ← h1']; exact h3)
              have hL := hrl.setR hx (k * sz + off)
              have hwh : ∀ o, Wh gb s.heap gg o := fun o => ⟨id, cur.size, hg, by rw [ho]; trivial⟩
              obtain ⟨cur', hcur'⟩ : ∃ cur' : Array Value, cur' = (cur.toList.take (k * sz + off) ++ (a.eval x).cells.toList ++ cur.toList.drop (k * sz + off + (a.eval x).cells.toList.length)).toArray := ⟨_, rfl⟩
              rw [← hcur'] at hrun
              have hxl : (a.eval x).cells.toList.length = szN z := by rw [Array.length_toList]; exact hvl
              have hsz : cur'.size = cur.size := by
                rw [hcur', List.size_toArray]
                simp only [List.length_append, List.length_take, List.length_drop, hxl, Array.length_toList]
                omega
              have hch := chg_row (F := F) (id := id) hwh hblk hsz
              have hlen2 : (items.set k (setR it off (s.eval x).cells)).flatten.length = items.flatten.length := by
                rw [hfs, setR_len (by rw [h2]; omega)]
              refine wp_skp (w' := w.setRow gg cur') (by unfold execOp; simp only [hop, hv]; rw [Sem.run_bind, hrun]; rfl) (hK _ _ ⟨gb, ?_⟩)
              refine (g.change (oo' := .row true e (items.set k (setR it off (s.eval x).cells))) ho trivial trivial (fun k => Iff.rfl) hg hch (fun o u _ => .inl (hwh o)) ?_).put hd (.dead _)
              refine ⟨fun it' hit' => ?_, cur', fr, setRow_heap w gg cur _ e _ hblk, hf, hsz, by rw [hlen2]; exact hle, ?_⟩
              · rcases List.mem_or_eq_of_mem_set hit' with h | h
                · exact h0 it' h
                · rw [h, setR_len (by rw [h2]; exact h3)]; exact h0 it (List.mem_of_getElem? hit)
              · have hcut : cur'.toList.take items.flatten.length = (cur.toList.take items.flatten.length).take (k * sz + off) ++ (a.eval x).cells.toList ++ (cur.toList.take items.flatten.length).drop (k * sz + off + (a.eval x).cells.toList.length) := by
                  rw [hcur']
                  have a1 : (cur.toList.take (k * sz + off)).length = k * sz + off := by rw [List.length_take, Array.length_toList]; omega
                  rw [List.take_append, List.take_append, List.length_append, a1, hxl, List.drop_take, List.take_take, List.take_take, Nat.min_comm (k * sz + off) items.flatten.length]
                  congr 1
                  congr 1
                  exact List.take_of_length_le (by rw [hxl]; omega)
                rw [hlen2, hcut, hfs]
                exact hL.keep (chg_keep (oo' := .row true e (items.set k (setR it off (s.eval x).cells))) ho (fun k => Iff.rfl) hch) (Ext.refl _)
        · cases h
      · cases h
    · cases h
  · rename_i z id sz k hz hpe
    split at h
    · rename_i e items ho
      split at h
      · rename_i hc
        obtain ⟨⟨h1, hlen⟩, h2, h3, rfl⟩ := hc
        simp only [Option.some.injEq] at h
        subst h
        have hx := rep_cells (g.eval x) h1
        rw [hpe] at hp
        generalize hv : a.eval p = v at hp
        cases hp with
        | ec _ _ _ gg size hg hs =>
          obtain ⟨h0, hbk⟩ := g.ok.rowAt ho (.inl ⟨true, rfl⟩)
          have hP : szOf P t = sz := by
            have := hT.szs _ (lk?_mem hz)
            unfold okSz at this
            rw [← h3]
            unfold szOf
            cases z with
            | none => rw [this.2]; rfl
            | some n => rw [this.2]; rfl
          rcases hbk with ⟨hn, _⟩ | ⟨g', size', cur, fr, hg', hblk, hf, hcs, hle, hrl, _⟩
          · rw [hn] at hg; cases hg
          · rw [hg] at hg'
            injection hg' with hg'
            injection hg' with e1 e2
            subst e1 e2 hcs
            have hvl : (a.eval x).cells.size = szN z := by rw [← Array.length_toList, ← hx.len]; exact h2
            have hfl := flatten_len h0
            rw [hP, hlen] at hfl
            have hkk : k * sz + sz ≤ cur.size := by rw [← Nat.succ_mul]; exact hs
            have hrun := run_storeAt (off := k * sz) hT hz hblk hf hvl (by omega) hx.one
            have hL := hrl.append hx
            have hwh : ∀ o, Wh gb s.heap gg o := fun o => ⟨id, cur.size, hg, by rw [ho]; trivial⟩
            obtain ⟨cur', hcur'⟩ : ∃ cur' : Array Value, cur' = (cur.toList.take (k * sz) ++ (a.eval x).cells.toList ++ cur.toList.drop (k * sz + (a.eval x).cells.toList.length)).toArray := ⟨_, rfl⟩
            rw [← hcur'] at hrun
            have hxl : (a.eval x).cells.toList.length = szN z := by rw [Array.length_toList]; exact hvl
            have hsz : cur'.size = cur.size := by
              rw [hcur', List.size_toArray]
              simp only [List.length_append, List.length_take, List.length_drop, hxl, Array.length_toList]
              omega
            have hch := chg_row (F := F) (id := id) hwh hblk hsz
            have hfs : (items ++ [(s.eval x).cells]).flatten = items.flatten ++ (s.eval x).cells := by simp
            have hlen2 : (items ++ [(s.eval x).cells]).flatten.length = k * sz + sz := by
              rw [hfs, List.length_append, hfl, h2, h3]
            refine wp_skp (w' := w.setRow gg cur') (by unfold execOp; simp only [hop, hv]; rw [Sem.run_bind, hrun]; rfl) (hK _ _ ⟨gb, ?_⟩)
            refine (g.change (oo' := .row true t (items ++ [(s.eval x).cells])) ho trivial trivial (fun k => Iff.rfl) hg hch (fun o u _ => .inl (hwh o)) ?_).put hd (.dead _)
            refine ⟨fun it' hit' => ?_, cur', fr, setRow_heap w gg cur _ t _ hblk, hf, hsz, by rw [hlen2]; exact hkk, ?_⟩
            · rcases List.mem_append.1 hit' with h | h
              · exact h0 it' h
              · rw [List.mem_singleton.1 h, h2, h3, hP]
            · have hcut : cur'.toList.take (k * sz + sz) = cur.toList.take items.flatten.length ++ (a.eval x).cells.toList := by
                rw [hcur', hfl]
                have a1 : (cur.toList.take (k * sz)).length = k * sz := by rw [List.length_take, Array.length_toList]; omega
                show List.take _ (cur.toList.take (k * sz) ++ (a.eval x).cells.toList ++ cur.toList.drop (k * sz + (a.eval x).cells.toList.length)) = _
                rw [List.append_assoc, List.take_append, a1, Nat.add_sub_cancel_left, List.take_take, Nat.min_eq_right (Nat.le_add_right _ _)]
                congr 1
                rw [List.take_append_of_le_length (by rw [hxl]; omega), List.take_of_length_le (by rw [hxl]; omega)]
              rw [hlen2, hcut, hfs]
              exact hL.keep (chg_keep (oo' := .row true t (items ++ [(s.eval x).cells])) ho (fun k => Iff.rfl) hch) (Ext.refl _)
      · cases h
    · cases h
  · cases h
end
end Go.Proofs.Ytheanmfdfoefoaa.Hv
set_option linter.unusedVariables false
set_option linter.unusedSimpArgs false
namespace Go.Proofs.Ytheanmfdfoefoaa.Hv
open Go Go.RowKit

section
variable {P : Program} {T : Tbl} {A : Vis} {N : Nat} {F : Nat → Nat → Prop} {w0 w w' : World} {gb0 gb gb' : Gb} {H0 H H' : Hp} {s s' : AS} {a : Act} {n n' : Nat} {W : Nat → Nat → Prop} {o : Oper} {K : Act → World → Prop} {Q : Exit → Act → World → Prop}
theorem s_box {e : TypeId} {x : Operand} (hop : o.op = .box e x) (h : feff T A o s = some s') (g : Good P N F w0 gb0 H0 s a w gb) (hd : ∀ k, o.dst = some k → k < N) (hK : ∀ a' w', R P N F w0 gb0 H0 s' a' w' → K a' w') : o.wp P a w K Q := by
  unfold feff at h
  simp only [hop] at h
  split at h
  · rename_i d hod
    split at h
    · rename_i h1
      simp only [Option.some.injEq] at h
      subst h
      have hx := rep_cells (g.eval x) h1
      obtain ⟨b1, b2, b3⟩ := alloc_below w (.cells (a.eval x).cells e)
      refine wp_val (v := .pointer (some ⟨w.heap.size, 0, none⟩)) (w' := w.alloc (.cells (a.eval x).cells e)) (by unfold execOp; simp only [hop]; rfl) (hK _ _ ⟨gbn gb s.next (w.heap.size, (a.eval x).cells.size), ?_⟩)
      have := (g.freshCells hx b1 b2 b3).put (d := some d) (x := .ptr s.next 0) (v := .pointer (some ⟨w.heap.size, 0, none⟩)) (fun k hk => hd k (by rw [hod]; exact hk)) (Rep.ptr _ 0 _ _ (gbn_at gb s.next _))
      rw [hod]; exact this
    · cases h
  · cases h
theorem s_alloc {e : TypeId} (hop : o.op = .alloc e) (hT : T.Ok P) (h : feff T A o s = some s') (g : Good P N F w0 gb0 H0 s a w gb) (hd : ∀ k, o.dst = some k → k < N) (hK : ∀ a' w', R P N F w0 gb0 H0 s' a' w' → K a' w') : o.wp P a w K Q := by
  unfold feff at h
  simp only [hop] at h
  split at h
  · rename_i d z hod hz
    split at h
    · rename_i h1
      simp only [Option.some.injEq] at h
      subst h
      have hzz : (P.info? _).map (·.zero) = some (some z) := hT.zeros _ (lk?_mem hz)
      obtain ⟨b1, b2, b3⟩ := alloc_below w (.cells z.cells e)
      refine wp_val (v := .pointer (some ⟨w.heap.size, 0, none⟩)) (w' := w.alloc (.cells z.cells e)) ?_ (hK _ _ ⟨gbn gb s.next (w.heap.size, z.cells.size), ?_⟩)
      · unfold execOp
        simp only [hop]
        rw [Sem.run_bind]
        simp only [Instr.alloc, Sem.run_bind, run_zero_some hzz, Result.andThen_ok]
        rfl
      · have := (g.freshCells (repL_lits (w := w) (W := Wr F gb s.heap) (gb := gb) h1) b1 b2 b3).put (d := some d) (x := .ptr s.next 0) (v := .pointer (some ⟨w.heap.size, 0, none⟩)) (fun k hk => hd k (by rw [hod]; exact hk)) (Rep.ptr _ 0 _ _ (gbn_at gb s.next _))
        rw [hod]; exact this
    · cases h
  · cases h
theorem fill_row {size : Nat} (g : Good P N F w0 gb0 H0 s a w gb) : ∀ (parts : List (Nat × Operand)) (k : Nat) {B : List AV} {us : Array Value}, parts.map (·.1) = List.range' k parts.length → us.size = (k + parts.length) * size → RepL w (Wr F gb s.heap) gb B (us.toList.take (k * size)) →
    (∀ it ∈ bsItems s.eval parts, it.length = size ∧ it.all AV.isOne = true) →
    ∃ vs : Array Value, Instr.fill (fun i => some (i * size, size)) us (parts.map fun p => (p.1, a.eval p.2)) = some vs ∧ RepL w (Wr F gb s.heap) gb (B ++ (bsItems s.eval parts).flatten) vs.toList := by
  intro parts
  induction parts with
  | nil =>
    intro k B us _ hs hA _
    refine ⟨us, rfl, ?_⟩
    have : us.toList.take (k * size) = us.toList := List.take_of_length_le (by rw [Array.length_toList, hs]; simp)
    rw [this] at hA
    simpa [bsItems] using hA
  | cons p parts ih =>
    obtain ⟨i, x⟩ := p
    intro k B us hix hs hA hit
    rw [List.map_cons, List.length_cons, List.range'_succ] at hix
    injection hix with h0 hix
    simp only at h0
    subst h0
    obtain ⟨h1, h2⟩ := hit _ (by simp only [bsItems, List.map_cons]; exact List.mem_cons_self)
    have hx := rep_cells (g.eval x) h2
    have hsz : (a.eval x).cells.size = size := by rw [← Array.length_toList, ← hx.len]; exact h1
    have hfit : i * size + size ≤ us.size := by
      rw [hs, ← Nat.succ_mul]
      exact Nat.mul_le_mul_right _ (by simp)
    obtain ⟨us', e1, e2⟩ := fill_step (place := fun i => some (i * size, size)) (rest := parts.map fun p => (p.1, a.eval p.2)) (i := i) rfl hsz (cells := us) hfit
    have hl0 : (us.toList.take (i * size)).length = i * size := by rw [List.length_take, Array.length_toList]; omega
    have ht : us'.toList.take ((i + 1) * size) = us.toList.take (i * size) ++ (a.eval x).cells.toList := by
      rw [e1]
      exact List.take_left' (by rw [List.length_append, hl0, Array.length_toList, hsz, Nat.succ_mul])
    have hs' : us'.size = (i + 1 + parts.length) * size := by
      have h3 : us'.toList.length = us.size := by
        rw [e1]
        simp only [List.length_append, List.length_take, List.length_drop, Array.length_toList, hsz]
        omega
      rw [← Array.length_toList, h3, hs, List.length_cons]
      congr 1
      omega
    obtain ⟨vs, hv1, hv2⟩ := ih (i + 1) (B := B ++ (s.eval x).cells) (us := us') hix hs' (by rw [ht]; exact hA.append hx) (fun it h => hit it (by simp only [bsItems, List.map_cons] at h ⊢; exact List.mem_cons_of_mem _ h))
    refine ⟨vs, ?_, ?_⟩
    · rw [List.map_cons, e2]; exact hv1
    · have : (B ++ (bsItems s.eval ((i, x) :: parts)).flatten) = (B ++ (s.eval x).cells) ++ (bsItems s.eval parts).flatten := by simp [bsItems]
      rw [this]; exact hv2
theorem s_bslice {t : TypeId} {m : Nat} {parts : Array (Nat × Operand)} (hop : o.op = .buildSlice t m parts) (hT : T.Ok P) (h : feff T A o s = some s') (g : Good P N F w0 gb0 H0 s a w gb) (hd : ∀ k, o.dst = some k → k < N) (hK : ∀ a' w', R P N F w0 gb0 H0 s' a' w' → K a' w') : o.wp P a w K Q := by
  unfold feff at h
  simp only [hop] at h
  split at h
  · rename_i d I hod hI
    split at h
    · rename_i hc
      obtain ⟨hix, hn, hit⟩ := hc
      simp only [Option.some.injEq] at h
      subst h
      obtain ⟨hu, ⟨i, hi, hz, hsi, hby⟩, hzs, hsz, hbp⟩ := sls_ok hT hI
      have hpl : parts.toList.length = m := by
        have := congrArg List.length hix
        simpa using this
      obtain ⟨vs, hfill, hvs⟩ : ∃ vs : Array Value, (Instr.buildSlice t m (parts.map fun (i, x) => (i, a.eval x))).run P w = .ok (.slice (some ⟨w.heap.size, 0, none⟩) m m) (w.alloc (.cells vs I.e)) ∧ RepL w (Wr F gb s.heap) gb (bsItems s.eval parts.toList).flatten vs.toList := by
        by_cases h0 : m = 0
        · subst h0
          have hp0 : parts = #[] := Array.toList_inj.1 (List.eq_nil_of_length_eq_zero hpl)
          subst hp0
          refine ⟨#[], ?_, RepL.nil⟩
          simp [Instr.buildSlice, run_underlying hu, sizeOf, typeInfo, hi, Instr.fill, newRow, Array.range_zero']
        · obtain ⟨vs, h1, h2⟩ := fill_row (size := I.size) (B := []) g parts.toList 0 (us := (Array.range (m * I.size)).map (I.zero.cells[· % I.zero.cells.size]!)) (by rw [hpl, hix, List.range_eq_range']) (by simp [hpl]) (by simpa using RepL.nil) hit
          refine ⟨vs, ?_, by simpa using h2⟩
          have hpos : ¬ m * I.size = 0 := by
            intro h
            rcases Nat.mul_eq_zero.1 h with h | h <;> omega
          refine run_buildSlice w t I.e m _ vs i I.zero hu hi hz (by rw [hsi]; omega) (by rw [hsi]; exact hpos) ?_
          rw [hsi, Array.toList_map]
          exact h1
      have hlen : (bsItems s.eval parts.toList).length = m := by unfold bsItems; rw [List.length_map]; exact hpl
      have hfl := flatten_len (fun it h => (hit it h).1)
      have hvsz : vs.size = m * I.size := by rw [← Array.length_toList, ← hvs.len, hfl, hlen]
      have hcap : m ≤ maxLen := by
        have := Nat.le_mul_of_pos_right m hsz
        simp only [maxLen]; omega
      obtain ⟨b1, b2, b3⟩ := alloc_below w (.cells vs I.e)
      refine wp_val (v := .slice (some ⟨w.heap.size, 0, none⟩) m m) (w' := w.alloc (.cells vs I.e)) (by unfold execOp; simp only [hop]; rw [Sem.run_bind, hfill]; rfl) (hK _ _ ⟨gbn gb s.next (w.heap.size, vs.size), ?_⟩)
      have ht : vs.toList.take (bsItems s.eval parts.toList).flatten.length = vs.toList := List.take_of_length_le (by rw [hvs.len]; exact Nat.le_refl _)
      have := (g.freshRow (m := A.muts.elem d) (items := bsItems s.eval parts.toList) (by rw [szOf_sl hT hI]; exact fun it h => (hit it h).1) (by rw [hfl, hlen, hvsz]; exact Nat.le_refl _) (cold0 _) (by rw [ht]; exact hvs) b1 b2 b3).put (d := some d) (x := .rw s.next I.size 0 m) (v := .slice (some ⟨w.heap.size, 0, none⟩) m m) (fun k hk => hd k (by rw [hod]; exact hk))
        (by have := Rep.rw (w := w.alloc (.cells vs I.e)) (W := Wr F (gbn gb s.next (w.heap.size, vs.size)) (s.fresh (.row (A.muts.elem d) I.e (bsItems s.eval parts.toList))).heap) s.next I.size 0 m _ _ m (gbn_at gb s.next (w.heap.size, vs.size)) (by rw [hvsz]; simp) (Nat.le_refl _) hcap
            rwa [Nat.zero_mul] at this)
      rw [hod]; exact this
    · cases h
  · cases h
theorem zeros_mod {z : Array Value} (hz : 0 < z.size) : ∀ k : Nat, ((Array.range (k * z.size)).map (z[· % z.size]!)).toList = (List.replicate k z.toList).flatten := by
  intro k
  induction k with
  | zero => simp
  | succ k ih =>
    rw [List.replicate_succ', List.flatten_append, ← ih]
    apply List.ext_getElem?
    intro j
    simp only [Array.toList_map, Array.toList_range, List.getElem?_map, List.flatten_cons, List.flatten_nil, List.append_nil]
    by_cases h1 : j < k * z.size
    · have h2 : j < (k + 1) * z.size := by rw [Nat.succ_mul]; omega
      rw [List.getElem?_append_left (by simpa using h1)]
      simp [h1, h2]
    · rw [List.getElem?_append_right (by simpa using h1)]
      simp only [List.length_map, List.length_range]
      by_cases h2 : j < (k + 1) * z.size
      · rw [Nat.succ_mul] at h2
        have h3 : j - k * z.size < z.size := by omega
        have h4 : j % z.size = j - k * z.size := by
          have : j = (j - k * z.size) + k * z.size := by omega
          rw [this, Nat.add_mul_mod_self_right, Nat.mod_eq_of_lt h3]; omega
        rw [List.getElem?_range (by rw [Nat.succ_mul]; omega)]
        simp [h4, h3]
      · rw [Nat.succ_mul] at h2
        rw [List.getElem?_eq_none (by simp; rw [Nat.succ_mul]; omega)]
        simp; omega
theorem s_mslice {t : TypeId} {l c : Operand} (hop : o.op = .makeSlice t l c) (hT : T.Ok P) (h : feff T A o s = some s') (g : Good P N F w0 gb0 H0 s a w gb) (hd : ∀ k, o.dst = some k → k < N) (hK : ∀ a' w', R P N F w0 gb0 H0 s' a' w' → K a' w') : o.wp P a w K Q := by
  unfold feff at h
  simp only [hop] at h
  split at h
  · rename_i d I k1 lv k2 cv hod hI hl hc
    split at h
    · rename_i hb
      obtain ⟨⟨b1, b2, b3'⟩, hone⟩ := hb
      have b3 : I.bytes * cv ≤ 281474976710656 := by
        cases hcp : A.caps.elem d with
        | true => rw [hcp] at b3'; exact b3'
        | false => rw [hcp] at b3'; exact Int.le_trans b3' (by decide)
      obtain ⟨hu, ⟨i, hi, hz, hsi, hby⟩, hzs, hsz, hbp⟩ := sls_ok hT hI
      have h63 : cv ≤ 9223372036854775807 := by
        have : (1 : Int) * cv ≤ I.bytes * cv := Int.mul_le_mul_of_nonneg_right (by omega) (by omega)
        omega
      have hcm : cv.toNat ≤ maxLen := by simp only [maxLen]; omega
      have hrun := run_make (P := P) w t I.e i I.zero hu hi hz k1 k2 lv cv b1 b2 (by rw [hby]; omega) h63
      obtain ⟨m, hm⟩ : ∃ m, lv.toNat = m := ⟨_, rfl⟩
      obtain ⟨k, hk⟩ : ∃ k, cv.toNat = k := ⟨_, rfl⟩
      have hmk : m ≤ k := by omega
      rw [hm, hk, hsi] at hrun
      have hsz' : (madeCells I.zero.cells (k * I.size)).size = k * I.size := size_madeCells _ _
      have hcells : (madeCells I.zero.cells (k * I.size)).toList = (List.replicate k I.zero.cells.toList).flatten := by
        unfold madeCells
        rw [← hzs]
        exact zeros_mod (by omega) k
      have hzl : (zeroA I.zero).length = I.size := by unfold zeroA; rw [List.length_map, Array.length_toList]; exact hzs
      have hfl : ∀ m, (List.replicate m (zeroA I.zero)).flatten.length = m * I.size := fun m => by
        rw [flatten_len (sz := I.size) (fun it hit => by rw [List.eq_of_mem_replicate hit]; exact hzl), List.length_replicate]
      have hrow : ∀ m, m ≤ k → RepL w (Wr F gb s.heap) gb (List.replicate m (zeroA I.zero)).flatten ((madeCells I.zero.cells (k * I.size)).toList.take (List.replicate m (zeroA I.zero)).flatten.length) := fun m hmk => by
        have e1 : (madeCells I.zero.cells (k * I.size)).toList.take (m * I.size) = (List.replicate m I.zero.cells.toList).flatten := by
          rw [hcells]
          have : List.replicate k I.zero.cells.toList = List.replicate m I.zero.cells.toList ++ List.replicate (k - m) I.zero.cells.toList := by
            rw [List.replicate_append_replicate]; congr 1; omega
          rw [this, List.flatten_append]
          exact List.take_left' (by rw [List.length_flatten]; simp [hzs])
        rw [hfl, e1]
        clear hmk e1
        induction m with
        | zero => simpa using RepL.nil
        | succ m ih =>
          rw [List.replicate_succ, List.replicate_succ, List.flatten_cons, List.flatten_cons]
          exact (repL_lits hone).append ih
      obtain ⟨c1, c2, c3⟩ := alloc_below w (.cells (madeCells I.zero.cells (k * I.size)) I.e)
      have hrunv : (execOp a.eval o).run P w = .ok (.value (.slice (some ⟨w.heap.size, 0, none⟩) m k)) (w.alloc (.cells (madeCells I.zero.cells (k * I.size)) I.e)) := by
        unfold execOp
        simp only [hop, rep_int (g.eval l) hl, rep_int (g.eval c) hc]
        rw [Sem.run_bind, hrun]
        rfl
      cases hcp : A.caps.elem d with
      | false =>
        rw [hcp] at h
        simp only [cond_false, Option.some.injEq] at h
        subst h
        refine wp_val hrunv (hK _ _ ⟨gbn gb s.next (w.heap.size, (madeCells I.zero.cells (k * I.size)).size), ?_⟩)
        have := (g.freshRow (m := A.muts.elem d) (items := List.replicate m (zeroA I.zero)) (by rw [szOf_sl hT hI]; exact fun it hit => by rw [List.eq_of_mem_replicate hit]; exact hzl) (by rw [hfl, hsz']; exact Nat.mul_le_mul_right _ hmk) (cold0 _) (hrow m hmk) c1 c2 c3).put (d := some d) (x := .rw s.next I.size 0 m) (v := .slice (some ⟨w.heap.size, 0, none⟩) m k) (fun k hk => hd k (by rw [hod]; exact hk))
          (by have := Rep.rw (w := w.alloc (.cells (madeCells I.zero.cells (k * I.size)) I.e)) (W := Wr F (gbn gb s.next (w.heap.size, (madeCells I.zero.cells (k * I.size)).size)) (s.fresh (.row (A.muts.elem d) I.e (List.replicate m (zeroA I.zero)))).heap) s.next I.size 0 m _ _ k (gbn_at gb s.next (w.heap.size, (madeCells I.zero.cells (k * I.size)).size)) (by rw [hsz']; simp) hmk (by rw [← hk]; exact hcm)
              rwa [Nat.zero_mul] at this)
        rw [hod, hm]; exact this
      | true =>
        rw [hcp] at h
        simp only [cond_true, Option.some.injEq] at h
        subst h
        refine wp_val hrunv (hK _ _ ⟨gbn gb s.next (w.heap.size, (madeCells I.zero.cells (k * I.size)).size), ?_⟩)
        have := (g.freshRow (m := true) (items := List.replicate k (zeroA I.zero)) (by rw [szOf_sl hT hI]; exact fun it hit => by rw [List.eq_of_mem_replicate hit]; exact hzl) (by rw [hfl, hsz']; exact Nat.le_refl _) (cold0 _) (hrow k (Nat.le_refl _)) c1 c2 c3).put (d := some d) (x := .rc s.next I.size m k) (v := .slice (some ⟨w.heap.size, 0, none⟩) m k) (fun k hk => hd k (by rw [hod]; exact hk))
          (Rep.rc (w := w.alloc (.cells (madeCells I.zero.cells (k * I.size)) I.e)) (W := Wr F (gbn gb s.next (w.heap.size, (madeCells I.zero.cells (k * I.size)).size)) (s.fresh (.row true I.e (List.replicate k (zeroA I.zero)))).heap) s.next I.size m k _ _ (gbn_at gb s.next (w.heap.size, (madeCells I.zero.cells (k * I.size)).size)) (by rw [hsz']; exact Nat.le_refl _) hmk (by rw [← hk]; exact hcm))
        rw [hod, hm, hk]; exact this
    · cases h
  · cases h
theorem s_mmap {t : TypeId} (hop : o.op = .makeMap t none) (h : feff T A o s = some s') (g : Good P N F w0 gb0 H0 s a w gb) (hd : ∀ k, o.dst = some k → k < N) (hK : ∀ a' w', R P N F w0 gb0 H0 s' a' w' → K a' w') : o.wp P a w K Q := by
  unfold feff at h
  simp only [hop] at h
  split at h
  · rename_i d I hod hI
    simp only [Option.some.injEq] at h
    subst h
    obtain ⟨b1, b2, b3⟩ := alloc_below w (.map #[] 0)
    refine wp_val (v := .map (some w.heap.size)) (w' := w.alloc (.map #[] 0)) (by unfold execOp; simp only [hop]; rfl) (hK _ _ ⟨gbn gb s.next (w.heap.size, 0), ?_⟩)
    have := (g.fresh (oo := .map [] 0) (size := 0) b1 b2 ⟨#[], b3, rfl, fun j e x hj => by simp at hj⟩).put (d := some d) (x := .mp s.next) (v := .map (some w.heap.size)) (fun k hk => hd k (by rw [hod]; exact hk)) (Rep.mp _ _ _ (gbn_at gb s.next _))
    rw [hod]; exact this
  · cases h
theorem s_range {t : TypeId} {x : Operand} (hop : o.op = .range t x) (hT : T.Ok P) (h : feff T A o s = some s') (g : Good P N F w0 gb0 H0 s a w gb) (hd : ∀ k, o.dst = some k → k < N) (hK : ∀ a' w', R P N F w0 gb0 H0 s' a' w' → K a' w') : o.wp P a w K Q := by
  unfold feff at h
  simp only [hop] at h
  split at h
  · rename_i d I id hod hI hx
    split at h
    · rename_i es clock ho
      simp only [Option.some.injEq] at h
      subst h
      have he := g.eval x
      rw [hx] at he
      obtain ⟨gg, size, ents, hg, hv, hb, hl, hrep⟩ := rep_map g.ok he ho
      obtain ⟨hu, _⟩ := hT.maps _ (lk?_mem hI)
      obtain ⟨b1, b2, b3⟩ := alloc_below w (.mapIter (some gg) clock #[] clock)
      refine wp_val (v := .pointer (some ⟨w.heap.size, 0, none⟩)) (w' := w.alloc (.mapIter (some gg) clock #[] clock)) ?_ (hK _ _ ⟨gbn gb s.next (w.heap.size, 0), ?_⟩)
      · unfold execOp
        simp only [hop, hv]
        rw [Sem.run_bind]
        simp [Instr.range, run_underlying hu, Go.MapKept.run_getObj_map hb]
      · have := (g.fresh (oo := .iter (some id) clock [] clock) (size := 0) b1 b2 ⟨some gg, ⟨size, gbn_ext g.ok _ _ _ hg⟩, b3⟩).put (d := some d) (x := .ptr s.next 0) (v := .pointer (some ⟨w.heap.size, 0, none⟩)) (fun k hk => hd k (by rw [hod]; exact hk)) (Rep.ptr _ 0 _ _ (gbn_at gb s.next _))
        rw [hod]; exact this
    · cases h
  · cases h
theorem byteA_flat (l : List UInt8) : (l.map byteA).flatten = l.map fun b => AV.lit (.int .u8 b.toNat) := by
  induction l with
  | nil => rfl
  | cons b l ih => simp [byteA, ih]
theorem freeze_at {w : World} {gg n : Nat} {cur : Array Value} {e : TypeId} {fr : Nat × Nat} (hb : w.heap[gg]? = some (.cells cur e fr)) (hc : Cold cur.size fr) (hn : n = cur.size) :
    ∃ fr', (w.freeze ⟨gg, n, none⟩ 1).heap[gg]? = some (.cells cur e fr') ∧ Cold cur.size fr' ∧ (∀ k, k ≠ gg → (w.freeze ⟨gg, n, none⟩ 1).heap[k]? = w.heap[k]?) ∧ (w.freeze ⟨gg, n, none⟩ 1).heap.size = w.heap.size := by
  subst hn
  obtain ⟨lo, hi⟩ := fr
  refine ⟨if lo == hi then (cur.size, cur.size + 1) else (min lo cur.size, max hi (cur.size + 1)), ?_, ?_, fun k hk => ?_, ?_⟩
  · unfold World.freeze
    rw [if_neg (by decide)]
    simp only [Array.getElem?_modify, if_true, hb, Option.map_some]
  · unfold Cold at hc ⊢
    simp only at hc
    by_cases he : lo = hi
    · subst he
      simp only [beq_self_eq_true, if_true]
      exact .inr (Nat.le_refl _)
    · have hb' : (lo == hi) = false := beq_eq_false_iff_ne.2 he
      simp only [hb', Bool.false_eq_true, if_false]
      rcases hc with hc | hc
      · exact absurd hc.symm he
      · exact .inr (by omega)
  · unfold World.freeze
    rw [if_neg (by decide)]
    simp only [Array.getElem?_modify]
    rw [if_neg (fun e => hk e.symm)]
  · unfold World.freeze
    rw [if_neg (by decide)]
    simp
theorem Good.cool {id gg size n : Nat} {cur : Array Value} {e : TypeId} {fr : Nat × Nat} (g : Good P N F w0 gb0 H0 s a w gb) (hg : gb id = some (gg, size)) (hx : exO (s.heap id)) (hnc : ∀ cs, s.heap id ≠ some (.cells cs)) (hb : w.heap[gg]? = some (.cells cur e fr)) (hc : Cold cur.size fr) (hn : n = cur.size) : Good P N F w0 gb0 H0 s a (w.freeze ⟨gg, n, none⟩ 1) gb := by
  obtain ⟨fr', h1, h2, h3, h4⟩ := freeze_at hb hc hn
  generalize hw' : w.freeze ⟨gg, n, none⟩ 1 = w' at h1 h3 h4 ⊢
  have hos : w'.os = w.os ∧ w'.tape = w.tape ∧ w'.output = w.output := by
    rw [← hw']; unfold World.freeze; rw [if_neg (by decide)]; exact ⟨rfl, rfl, rfl⟩
  clear hw'
  have hcell : ∀ b o u, w.cell? ⟨b, o, none⟩ = some u → w'.cell? ⟨b, o, none⟩ = some u := fun b o u hu => by
    by_cases hbg : b = gg
    · subst hbg
      simp only [World.cell?, hb] at hu
      simp only [World.cell?, h1]; exact hu
    · simp only [World.cell?] at hu ⊢
      rw [h3 b hbg]; exact hu
  have hk : ∀ b o u, ¬ Wr F gb s.heap b o → w.cell? ⟨b, o, none⟩ = some u → w'.cell? ⟨b, o, none⟩ = some u ∧ ¬ Wr F gb s.heap b o := fun b o u hn hu => ⟨hcell b o u hu, hn⟩
  have hkp : Kept (fun k => k = gg) (fun _ _ => False) w w' := ⟨hos.1, hos.2.1, hos.2.2, by omega, fun k _ hk => h3 k hk, fun b o u _ hu => hcell b o u hu⟩
  refine ⟨g.kept.trans hkp (fun k hk he => by subst he; exact g.x0 _ hk ⟨id, size, hg, hx⟩) (fun _ _ _ h => h.elim), g.ext, ⟨fun i b t h => by have := g.ok.lt i b t h; omega, g.ok.new, fun i o ho => ?_, g.ok.one, fun b o h => by have := g.ok.FB b o h; omega, g.ok.FX⟩, g.wr0, g.x0, g.size, g.defers, fun t => (g.slots t).keep hk (Ext.refl _)⟩
  rcases g.ok.live i o ho with ⟨b, t, hg', hr⟩ | h
  · refine .inl ⟨b, t, hg', ?_⟩
    by_cases hbg : b = gg
    · subst hbg
      cases o with
      | cells cs =>
        have := g.ok.one i id b t size hg' hg (by rw [ho]; trivial) hx
        subst this
        exact absurd ho (hnc cs)
      | row m e' items =>
        obtain ⟨q0, cur', fr'', q1, q2, q3, q4, q5⟩ := hr
        rw [hb] at q1; injection q1 with q1; injection q1 with q6 q7 q8
        subst q6 q7
        exact ⟨q0, cur, fr', h1, by rw [← q3]; exact h2, q3, q4, q5.keep hk (Ext.refl _)⟩
      | frz e' items =>
        obtain ⟨q0, cur', fr'', q1, q2, q3, q4, q5, q9⟩ := hr
        rw [hb] at q1; injection q1 with q1; injection q1 with q6 q7 q8
        subst q6 q7
        exact ⟨q0, cur, fr', h1, by rw [← q3]; exact h2, q3, q4, q5.keep hk (Ext.refl _), q9⟩
      | map es c => obtain ⟨ents, q1, _⟩ := hr; rw [hb] at q1; cases q1
      | iter m since seen last => obtain ⟨mb, _, q1⟩ := hr; rw [hb] at q1; cases q1
    · exact hr.keep (h3 b hbg) hk (Ext.refl _)
  · exact .inr h
theorem s_same {d : Nat} {t : TypeId} {x : Operand} {id sz ko len : Nat} {m : Bool} {e' : TypeId} {items : List (List AV)} (hop : o.op = .convert t t x) (hod : o.dst = some d) (hT : T.Ok P) (hx : s.eval x = .rw id sz ko len) (hb : T.byts.elem t = true) (hl : 0 < len) (ho : s.heap id = some (.row m e' items)) (g : Good P N F w0 gb0 H0 s a w gb) (hd : ∀ k, o.dst = some k → k < N) (hK : ∀ a' w', R P N F w0 gb0 H0 (s.set d (.rw id sz ko len)) a' w' → K a' w') : o.wp P a w K Q := by
  obtain ⟨e, h1, h2, h3⟩ := hT.byts t (List.elem_iff.1 hb)
  have he := g.eval x
  rw [hx] at he
  generalize hv : a.eval x = v at he
  have hrep := he
  cases he with
  | rw _ _ _ _ gg size c hg hs hc hm =>
    rcases g.ok.live id _ ho with ⟨gg', size', hg', h0, cur, fr, hblk, hcold, hsz, hfl, hrl⟩ | ⟨hn, _⟩
    · rw [hg] at hg'
      injection hg' with hg'
      injection hg' with q1 q2
      subst q1 q2
      have hsh : w.shape? gg = some (e', cur.size) := by unfold World.shape?; rw [hblk]
      have hrun : (execOp a.eval o).run P w = .ok (.value (.slice (some ⟨gg, ko * sz, none⟩) len c)) (w.freeze ⟨gg, cur.size, none⟩ 1) := by
        unfold execOp
        simp only [hop, hv]
        simp [convert, run_underlying h1, run_underlying h2, markStringish, hsh]
      refine wp_val hrun (hK _ _ ⟨gb, ?_⟩)
      have g2 := g.cool hg (by rw [ho]; trivial) (fun cs h => by rw [ho] at h; cases h) hblk (by rw [hsz]; exact hcold) rfl
      have := g2.put (d := some d) (x := .rw id sz ko len) (v := .slice (some ⟨gg, ko * sz, none⟩) len c) (fun k hk => hd k (by rw [hod]; exact hk)) (Rep.rw id sz ko len gg size c hg hs hc hm)
      rw [hod]; exact this
    · rw [hn] at hg; cases hg
  | rwn => omega
  | rwz => omega
theorem s_tobytes {t0 t : TypeId} {x : Operand} (hop : o.op = .convert t0 t x) (hT : T.Ok P) (h : feff T A o s = some s') (g : Good P N F w0 gb0 H0 s a w gb) (hd : ∀ k, o.dst = some k → k < N) (hK : ∀ a' w', R P N F w0 gb0 H0 s' a' w' → K a' w') : o.wp P a w K Q := by
  unfold feff at h
  simp only [hop] at h
  split at h
  · rename_i d u I hod hx hI
    cases hb : (T.strs.elem t0 && T.byts.elem t && Nat.ble u.size 140737488355328) with
    | false => rw [hb] at h; cases h
    | true =>
      rw [hb] at h
      rw [Bool.and_eq_true, Bool.and_eq_true] at hb
      simp only [cond_true, Option.some.injEq] at h
      subst h
      have husz := Nat.le_of_ble_eq_true hb.2
      replace hb := hb.1
      obtain ⟨e, h1, h2, h3⟩ := hT.byts t (List.elem_iff.1 hb.2)
      have h4 := hT.strs t0 (List.elem_iff.1 hb.1)
      have hv : a.eval x = .string u := by have := g.eval x; rw [hx] at this; exact rep_lit this
      have hE : I.e = e := by
        have := (sls_ok hT hI).ht
        rw [this] at h1
        injection h1 with h1
        injection h1 with h1
      subst hE
      have hI1 : I.size = 1 := by
        obtain ⟨_, ⟨i, hi, _, hs, _⟩, _⟩ := sls_ok hT hI
        rw [hi] at h3
        simp only [Option.map_some, Option.some.injEq] at h3
        omega
      have hge := grownCap_ge w u.size 0 I.e
      have hrun := run_bytes_of_string (P := P) w t0 t I.e u h4 h1 h2
      have hul : u.data.toList.length = u.size := by simp
      have hbs : (bytesRow u (grownCap w u.size 0 I.e)).size = grownCap w u.size 0 I.e := by
        have : u.data.size = u.size := rfl
        simp [bytesRow, this]; omega
      have hpre : (bytesRow u (grownCap w u.size 0 I.e)).toList.take u.size = u.data.toList.map fun b => Value.int .u8 b.toNat := by
        simp only [bytesRow, Array.toList_append, Array.toList_map]
        exact List.take_left' (by rw [List.length_map]; exact hul)
      have hcap : grownCap w u.size 0 I.e ≤ maxLen := grownCap_le_maxLen w u.size 0 I.e (by simp only [maxLen]; omega)
      · obtain ⟨c1, c2, c3⟩ := dalloc_below w (.cells (bytesRow u (grownCap w u.size 0 I.e)) I.e ((bytesRow u (grownCap w u.size 0 I.e)).size, (bytesRow u (grownCap w u.size 0 I.e)).size + 1))
        refine wp_val (v := .slice (some ⟨w.heap.size, 0, none⟩) u.size (grownCap w u.size 0 I.e)) (by unfold execOp; simp only [hop, hv]; rw [Sem.run_bind, hrun]; rfl) (hK _ _ ⟨gbn gb s.next (w.heap.size, (bytesRow u (grownCap w u.size 0 I.e)).size), ?_⟩)
        have hfl : (bytesA u).flatten.length = u.size := by unfold bytesA; rw [byteA_flat, List.length_map]; exact hul
        have := (g.freshRow (m := A.muts.elem d) (items := bytesA u) (by rw [szOf_sl hT hI, hI1]; intro it hit; obtain ⟨b, _, rfl⟩ := List.mem_map.1 hit; rfl) (by rw [hfl, hbs]; exact hge) (.inr (Nat.le_refl _)) (by
            rw [hfl, hpre]
            unfold bytesA
            rw [byteA_flat]
            have := repL_lits (w := w) (W := Wr F gb s.heap) (gb := gb) (us := u.data.toList.map fun b => Value.int .u8 b.toNat) (by rw [List.all_eq_true]; intro y hy; obtain ⟨v, hv, rfl⟩ := List.mem_map.1 hy; obtain ⟨b, _, rfl⟩ := List.mem_map.1 hv; rfl)
            rwa [List.map_map] at this) c1 c2 c3).put (d := some d) (x := .rw s.next 1 0 u.size) (v := .slice (some ⟨w.heap.size, 0, none⟩) u.size (grownCap w u.size 0 I.e)) (fun k hk => hd k (by rw [hod]; exact hk))
          (by have := Rep.rw (w := w.drew.alloc (.cells (bytesRow u (grownCap w u.size 0 I.e)) I.e ((bytesRow u (grownCap w u.size 0 I.e)).size, (bytesRow u (grownCap w u.size 0 I.e)).size + 1))) (W := Wr F (gbn gb s.next (w.heap.size, (bytesRow u (grownCap w u.size 0 I.e)).size)) (s.fresh (.row (A.muts.elem d) I.e (bytesA u))).heap) s.next 1 0 u.size _ _ (grownCap w u.size 0 I.e) (gbn_at gb s.next (w.heap.size, (bytesRow u (grownCap w u.size 0 I.e)).size)) (by rw [hbs]; simp) hge hcap
              rwa [Nat.zero_mul] at this)
        rw [hod]; exact this
  · rename_i d id sz ko len I hod hx hI
    split at h
    · rename_i m e' items ho
      split at h
      · rename_i hc
        simp only [Option.some.injEq] at h
        subst h
        obtain ⟨⟨rfl, hb⟩, hl⟩ := hc
        exact s_same hop hod hT hx hb hl ho g hd hK
      · cases h
    · cases h
  · cases h
theorem set_chg {gg : Nat} {ents : Array MapEntry} {clock : Nat} {ob : Obj} (hb : w.heap[gg]? = some (.map ents clock)) : Chg F gb H gg w { w with heap := w.heap.setIfInBounds gg ob } ∧ ({ w with heap := w.heap.setIfInBounds gg ob } : World).heap[gg]? = some ob := by
  have h := Go.MapKept.heap_set (o' := ob) hb
  refine ⟨⟨rfl, rfl, rfl, by simp, fun k hk => h.2 k hk, fun o u _ hc => ?_, fun cur e fr hc => ?_⟩, h.1⟩
  · simp [World.cell?, hb] at hc
  · rw [hb] at hc; cases hc
theorem map_wr (k : Nat) {es es' : List ME} {c c' : Nat} : wrO (some (.map es' c')) k ↔ wrO (some (.map es c)) k := Iff.rfl
theorem s_mupd {t : TypeId} {m k x : Operand} (hop : o.op = .mapUpdate t m k x) (hT : T.Ok P) (h : feff T A o s = some s') (g : Good P N F w0 gb0 H0 s a w gb) (hd : ∀ k, o.dst = some k → k < N) (hK : ∀ a' w', R P N F w0 gb0 H0 s' a' w' → K a' w') : o.wp P a w K Q := by
  unfold feff at h
  simp only [hop] at h
  split at h
  · rename_i I id hI hm
    cases hkk : keyKindH T s.heap I.key (s.eval k) with
    | false => rw [hkk] at h; cases h
    | true =>
      rw [hkk] at h
      simp only [cond_true] at h
      split at h
      · rename_i es clock ho
        have he := g.eval m
        rw [hm] at he
        obtain ⟨gg, size, ents, hg, hv, hb, hl, hrep⟩ := rep_map g.ok he ho
        obtain ⟨hu, _⟩ := hT.maps _ (lk?_mem hI)
        have hik := isKeyH_of g.ok hT hkk (g.eval k)
        simp only [kfind_g] at h
        have fin : ∀ (ents' : Array MapEntry) (es' : List ME) (clock' : Nat), (Instr.mapUpdate t (.map (some gg)) (a.eval k) (a.eval x)).run P w = .ok () { w with heap := w.heap.setIfInBounds gg (.map ents' clock') } → es'.length = ents'.size → (∀ (j : Nat) (e : ME) (x : MapEntry), es'[j]? = some e → ents'[j]? = some x → RepE w (Wr F gb s.heap) gb e x) →
            s' = (s.chg id (some (.map es' clock'))).put o.dst .dead → o.wp P a w K Q := by
          intro ents' es' clock' hrun hl' hrep' hs'
          subst hs'
          obtain ⟨hch, hblk⟩ := set_chg (F := F) (gb := gb) (H := s.heap) (ob := .map ents' clock') hb
          refine wp_skp (w' := { w with heap := w.heap.setIfInBounds gg (.map ents' clock') }) (by unfold execOp; simp only [hop, hv]; rw [Sem.run_bind, hrun]; rfl) (hK _ _ ⟨gb, ?_⟩)
          refine (g.change (oo' := .map es' clock') ho trivial trivial (fun k => Iff.rfl) hg hch (fun o u hc => by simp [World.cell?, hb] at hc) ?_).put hd (.dead _)
          have hkp := chg_keep (oo' := .map es' clock') ho (fun k => Iff.rfl) hch
          exact ⟨ents', hblk, hl', fun j e x hj hx => ⟨(hrep' j e x hj hx).born, (hrep' j e x hj hx).key.keep hkp (Ext.refl _), (hrep' j e x hj hx).val.keep hkp (Ext.refl _)⟩⟩
        split at h
        · rename_i i v hmf
          split at h
          · rename_i e hei
            simp only [Option.some.injEq] at h
            rcases hik.find es ents.toList _ (by simpa using hl) (fun j e x he hx => hrep j e x he (by simpa using hx)) hmf with ⟨h1, _⟩ | ⟨j', v', x', e', h1, h2, h3, h4, h5, h6⟩
            · cases h1
            · injection h1 with h1
              injection h1 with e1 e2
              subst e1
              rw [hei] at h2
              injection h2 with h2
              subst h2
              have h3' : ents[i]? = some x' := by simpa using h3
              have hxk : (Instr.keyThatStays x'.key (a.eval k)).run P w = .ok (a.eval k) w := by
                have hkeq : x'.key = a.eval k := hik.same _ _ h5 (hrep i e x' hei h3').key
                rw [hkeq]; exact hik.stays
              refine fin (ents.modify i fun e => { e with key := a.eval k, val := a.eval x }) (es.set i ⟨s.eval k, s.eval x, e.born⟩) clock ?_ (by simp [hl]) (fun j e2 x2 hj hx2 => ?_) h.symm
              · simp [Instr.mapUpdate, run_underlying hu, Go.MapKept.run_getObj_map hb, hik.check, h6, h3', hxk, Go.MapKept.run_setObj_map _ hb]
              · rw [Array.getElem?_modify] at hx2
                by_cases hji : i = j
                · subst hji
                  rw [if_pos rfl, h3'] at hx2
                  simp only [Option.map_some, Option.some.injEq] at hx2
                  have hlt := (List.getElem?_eq_some_iff.1 hei).1
                  rw [List.getElem?_set_self hlt] at hj
                  injection hj with hj
                  subst hj hx2
                  exact ⟨(hrep i e x' hei h3').born, g.eval k, g.eval x⟩
                · rw [if_neg hji] at hx2
                  rw [List.getElem?_set_ne hji] at hj
                  exact hrep j e2 x2 hj hx2
          · cases h
        · rename_i hmf
          simp only [Option.some.injEq] at h
          rcases hik.find es ents.toList _ (by simpa using hl) (fun j e x he hx => hrep j e x he (by simpa using hx)) hmf with ⟨_, h2⟩ | ⟨j', v', x', e', h1, _⟩
          · refine fin (ents.push { key := a.eval k, val := a.eval x, born := clock }) (es ++ [⟨s.eval k, s.eval x, clock⟩]) (clock + 1) ?_ (by simp [hl]) (fun j e2 x2 hj hx2 => ?_) h.symm
            · simp [Instr.mapUpdate, run_underlying hu, Go.MapKept.run_getObj_map hb, hik.check, h2, Go.MapKept.run_setObj_map _ hb]
            · rw [Array.getElem?_push] at hx2
              by_cases hj2 : j = ents.size
              · rw [if_pos hj2] at hx2
                injection hx2 with hx2
                rw [List.getElem?_append_right (by omega), hj2, hl, Nat.sub_self] at hj
                simp only [List.getElem?_cons_zero, Option.some.injEq] at hj
                subst hj hx2
                exact ⟨rfl, g.eval k, g.eval x⟩
              · rw [if_neg hj2] at hx2
                have hlt := (Array.getElem?_eq_some_iff.1 hx2).1
                rw [List.getElem?_append_left (by omega)] at hj
                exact hrep j e2 x2 hj hx2
          · cases h1
        · cases h
      · cases h
  · cases h
theorem s_del {c : Call} {m k : Operand} {t : TypeId} {ts : List TypeId} (hop : o.op = .call c) (hc : c.callee = .builtin .delete) (hx : c.args.toList = [m, k]) (ht : c.argTypes.toList = t :: ts) (hT : T.Ok P) (h : feff T A o s = some s') (g : Good P N F w0 gb0 H0 s a w gb) (hd : ∀ k, o.dst = some k → k < N) (hK : ∀ a' w', R P N F w0 gb0 H0 s' a' w' → K a' w') : o.wp P a w K Q := by
  unfold feff at h
  simp only [hop, hc, hx, ht] at h
  obtain ⟨callee, args, argTypes⟩ := c
  obtain rfl : args = #[m, k] := Array.toList_inj.1 hx
  have ht' : argTypes[0]? = some t := by rw [← Array.getElem?_toList, ht]; rfl
  simp only at hc
  subst hc
  split at h
  · rename_i I id hI hm
    cases hkk : keyKindH T s.heap I.key (s.eval k) with
    | false => rw [hkk] at h; cases h
    | true =>
      rw [hkk] at h
      simp only [cond_true] at h
      split at h
      · rename_i es clock ho
        have he := g.eval m
        rw [hm] at he
        obtain ⟨gg, size, ents, hg, hv, hb, hl, hrep⟩ := rep_map g.ok he ho
        obtain ⟨hu, _⟩ := hT.maps _ (lk?_mem hI)
        have hik := isKeyH_of g.ok hT hkk (g.eval k)
        simp only [kfind_g] at h
        have hck := hik.check
        have fin : ∀ (ents' : Array MapEntry) (es' : List ME), (Builtin.delete_ argTypes o.type #[.map (some gg), a.eval k]).run P w = .ok (.tuple #[]) { w with heap := w.heap.setIfInBounds gg (.map ents' clock) } → es'.length = ents'.size → (∀ (j : Nat) (e : ME) (x : MapEntry), es'[j]? = some e → ents'[j]? = some x → RepE w (Wr F gb s.heap) gb e x) →
            s' = (s.chg id (some (.map es' clock))).put o.dst (.tup []) → o.wp P a w K Q := by
          intro ents' es' hrun hl' hrep' hs'
          subst hs'
          obtain ⟨hch, hblk⟩ := set_chg (F := F) (gb := gb) (H := s.heap) (ob := .map ents' clock) hb
          refine wp_val (v := .tuple #[]) (w' := { w with heap := w.heap.setIfInBounds gg (.map ents' clock) }) (by unfold execOp; simp [hop, resolve, invoke, builtin, hv, hrun]) (hK _ _ ⟨gb, ?_⟩)
          refine (g.change (oo' := .map es' clock) ho trivial trivial (fun k => Iff.rfl) hg hch (fun o u hc => by simp [World.cell?, hb] at hc) ?_).put hd (Rep.tup [] [] rfl (fun j c u hc => by simp at hc))
          have hkp := chg_keep (oo' := .map es' clock) ho (fun k => Iff.rfl) hch
          exact ⟨ents', hblk, hl', fun j e x hj hx => ⟨(hrep' j e x hj hx).born, (hrep' j e x hj hx).key.keep hkp (Ext.refl _), (hrep' j e x hj hx).val.keep hkp (Ext.refl _)⟩⟩
        split at h
        · rename_i i v hmf
          simp only [Option.some.injEq] at h
          rcases hik.find es ents.toList _ (by simpa using hl) (fun j e x he hx => hrep j e x he (by simpa using hx)) hmf with ⟨h1, _⟩ | ⟨j', v', x', e', h1, h2, h3, h4, h5, h6⟩
          · cases h1
          · injection h1 with h1
            injection h1 with e1 e2
            subst e1
            have hlt : i < ents.size := by have := (List.getElem?_eq_some_iff.1 h2).1; omega
            refine fin (ents.eraseIdxIfInBounds i) (es.eraseIdx i) ?_ ?_ (fun j e2 x2 hj hx2 => ?_) h.symm
            · simp [Builtin.delete_, ht', run_underlying hu, Go.MapKept.run_getObj_map hb, hck, h6, Go.MapKept.run_setObj_map _ hb]
            · unfold Array.eraseIdxIfInBounds
              rw [dif_pos hlt, List.length_eraseIdx, if_pos (by omega), Array.size_eraseIdx, hl]
            · unfold Array.eraseIdxIfInBounds at hx2
              rw [dif_pos hlt] at hx2
              rw [← Array.getElem?_toList, Array.toList_eraseIdx, List.getElem?_eraseIdx] at hx2
              rw [List.getElem?_eraseIdx] at hj
              split at hj
              · rename_i hji
                rw [if_pos hji] at hx2
                exact hrep j e2 x2 hj (by simpa using hx2)
              · rename_i hji
                rw [if_neg hji] at hx2
                exact hrep (j + 1) e2 x2 hj (by simpa using hx2)
        · rename_i hmf
          simp only [Option.some.injEq] at h
          rcases hik.find es ents.toList _ (by simpa using hl) (fun j e x he hx => hrep j e x he (by simpa using hx)) hmf with ⟨_, h2⟩ | ⟨j', v', x', e', h1, _⟩
          · refine fin ents es ?_ hl hrep h.symm
            simp [Builtin.delete_, ht', run_underlying hu, Go.MapKept.run_getObj_map hb, hck, h2, Go.MapKept.run_setObj_map _ hb]
          · cases h1
        · cases h
      · cases h
  · cases h
theorem s_slice3 {t : TypeId} {x hi mx : Operand} (hop : o.op = .slice t x none (some hi) (some mx)) (hT : T.Ok P) (h : feff T A o s = some s') (g : Good P N F w0 gb0 H0 s a w gb) (hd : ∀ k, o.dst = some k → k < N) (hK : ∀ a' w', R P N F w0 gb0 H0 s' a' w' → K a' w') : o.wp P a w K Q := by
  unfold feff at h
  simp only [hop] at h
  split at h
  · rename_i d I id sz len kh hh km m hod hI hx hhi hmx
    split at h
    · rename_i e items ho
      split at h
      · rename_i hb
        obtain ⟨⟨b1, b2, b3, b4⟩, hsz⟩ := hb
        simp only [Option.some.injEq] at h
        subst h
        subst b2
        have he := g.eval x
        rw [hx] at he
        obtain ⟨hu', ⟨inf, hinf, hz, hsi, hby⟩, _, hsp, _⟩ := sls_ok hT hI
        have v1 := rep_int (g.eval hi) hhi
        have v2 := rep_int (g.eval mx) hmx
        have hrun : ∀ (A : Option Addr) (c : Nat), a.eval x = .slice A len c → len ≤ c → (execOp a.eval o).run P w = .ok (.value (.slice (if hh.toNat = 0 then A else A.map (·.add (0 * I.size))) hh.toNat hh.toNat)) w := by
          intro A c hvv hc1
          have k1 : ∀ (k : IntKind) (cd : BoundsCode), (Instr.sliceBound (.int k hh) c cd).run P w = .ok hh.toNat w := fun k cd => by
            have h1 : 0 ≤ hh ∧ hh ≤ (c : Int) := by omega
            simp [Instr.sliceBound, asIntOf, h1]
          have k2 : ∀ (k : IntKind) (cd : BoundsCode), (Instr.sliceBound (.int k hh) hh.toNat cd).run P w = .ok hh.toNat w := fun k cd => by
            have h1 : 0 ≤ hh ∧ hh ≤ (hh.toNat : Int) := by omega
            simp only [Instr.sliceBound, asIntOf, Sem.run_bind, Sem.run_pure, Result.andThen_ok, if_pos h1]
          have hbd : (Instr.sliceBounds true len c (Option.map a.eval none) (Option.map a.eval (some hi)) (Option.map a.eval (some mx))).run P w = .ok (0, hh.toNat, hh.toNat) w := by
            simp [Instr.sliceBounds, v1, v2, k1, k2]
          unfold execOp
          simp only [hop, hvv, Instr.sliceAt, Sem.run_bind, run_underlying hu', Result.andThen_ok, Instr.slice, Sem.run_pure]
          rw [hbd]
          simp [sizeOf, typeInfo, hinf, hsi]
        have hval : ∃ u, (execOp a.eval o).run P w = .ok (.value u) w ∧ Rep w (Wr F gb s.heap) gb (.rw id sz 0 hh.toNat) u := by
          generalize hv : a.eval x = v at he
          cases he with
          | rw _ _ _ _ gg size c hg hs hc hm' =>
            refine ⟨_, hrun _ c hv hc, ?_⟩
            by_cases h0 : hh.toNat = 0
            · rw [if_pos h0, h0]
              exact Rep.rwz id sz _ _ gg size hg
            · rw [if_neg h0]
              have e1 : (some (⟨gg, 0 * sz, none⟩ : Addr)).map (·.add (0 * I.size)) = some ⟨gg, 0 * sz, none⟩ := by
                simp [Addr.add_lit]
              rw [e1]
              refine Rep.rw id sz 0 _ gg size hh.toNat hg ?_ (Nat.le_refl _) (by omega)
              have : hh.toNat * sz ≤ c * sz := Nat.mul_le_mul_right _ (by omega)
              omega
          | rwz _ _ _ off gg size hg =>
            have h0 : hh.toNat = 0 := by omega
            refine ⟨_, hrun _ 0 hv (Nat.le_refl _), ?_⟩
            rw [if_pos h0, h0]
            exact Rep.rwz id sz _ _ gg size hg
          | rwn =>
            have h0 : hh.toNat = 0 := by omega
            refine ⟨_, hrun none 0 hv (Nat.le_refl _), ?_⟩
            rw [if_pos h0, h0]
            exact Rep.rwn id sz
        obtain ⟨u, hur, hrep⟩ := hval
        refine wp_val hur (hK _ _ ⟨gb, ?_⟩)
        have hlive : ∃ gg size, gb id = some (gg, size) ∧ ObjRep P w (Wr F gb s.heap) gb gg size (.row true e items) ∨ (gb id = none ∧ items = []) := by
          rcases g.ok.live id _ ho with ⟨gg, size, hg, hr⟩ | ⟨hg, m, e', he⟩
          · exact ⟨gg, size, .inl ⟨hg, hr⟩⟩
          · injection he with _ _ he; exact ⟨0, 0, .inr ⟨hg, he⟩⟩
        obtain ⟨gg, size, hl⟩ := hlive
        rcases hl with ⟨hg, h0, cur, fr, h1, hf, h2, h3, h4⟩ | ⟨hg, hnil⟩
        · have htk : items.take hh.toNat ++ items.drop hh.toNat = items := List.take_append_drop _ _
          have hfl : (items.take hh.toNat).flatten.length ≤ items.flatten.length := by
            have := congrArg (fun l => (List.flatten l).length) htk
            simp only [List.flatten_append, List.length_append] at this
            omega
          have := (g.change (w' := w) (oo' := .row true e (items.take hh.toNat)) ho trivial trivial (fun k => Iff.rfl) hg (Chg.self gg) (fun o u hc => .inr hc) ⟨fun it hit => h0 it (List.mem_of_mem_take hit), cur, fr, h1, hf, h2, Nat.le_trans hfl h3, ?_⟩).put (d := some d) (x := .rw id sz 0 hh.toNat) (v := u) (fun k hk => hd k (by rw [hod]; exact hk)) ?_
          · rw [hod]; exact this
          · have e1 : cur.toList.take (items.take hh.toNat).flatten.length = (cur.toList.take items.flatten.length).take (items.take hh.toNat).flatten.length := by
              rw [List.take_take, Nat.min_eq_left hfl]
            have e2 : (items.take hh.toNat).flatten = items.flatten.take (items.take hh.toNat).flatten.length := by
              have := congrArg List.flatten htk
              rw [List.flatten_append] at this
              rw [← this, List.take_left]
            rw [e1]
            have := h4.take (items.take hh.toNat).flatten.length
            rw [← e2] at this
            exact this.keep (chg_keep (w' := w) (oo := .row true e items) (oo' := .row true e (items.take hh.toNat)) ho (fun k => Iff.rfl) (Chg.self gg)) (Ext.refl _)
          · exact hrep.keep (chg_keep (w' := w) (gg := gg) (oo := .row true e items) (oo' := .row true e (items.take hh.toNat)) ho (fun k => Iff.rfl) (Chg.self gg)) (Ext.refl _)
        · subst hnil
          have hid : upd s.heap id (some (.row true e (([] : List (List AV)).take hh.toNat))) = s.heap := by
            funext j
            by_cases hj : j = id
            · subst hj; rw [upd_same, ho]; simp
            · rw [upd_other (fun e => hj e.symm)]
          have : (s.chg id (some (.row true e (([] : List (List AV)).take hh.toNat)))) = s := by
            unfold AS.chg; rw [hid]
          rw [this, hod]
          exact g.put (d := some d) (fun k hk => hd k (by rw [hod]; exact hk)) hrep
      · cases h
    · cases h
  · cases h
theorem feff_sound (hT : T.Ok P) (h : feff T A o s = some s') (g : Good P N F w0 gb0 H0 s a w gb) (hd : ∀ k, o.dst = some k → k < N) (hK : ∀ a' w', R P N F w0 gb0 H0 s' a' w' → K a' w') : o.wp P a w K Q := by
  cases hop : o.op with
  | box e x => exact s_box hop h g hd hK
  | alloc e => exact s_alloc hop hT h g hd hK
  | buildSlice t m parts => exact s_bslice hop hT h g hd hK
  | makeSlice t l c => exact s_mslice hop hT h g hd hK
  | makeMap t r =>
    cases r with
    | none => exact s_mmap hop h g hd hK
    | some r => unfold feff at h; simp only [hop] at h; cases h
  | range t x => exact s_range hop hT h g hd hK
  | convert t0 t x => exact s_tobytes hop hT h g hd hK
  | store t p x => exact s_store hop hT h g hd hK
  | mapUpdate t m k x => exact s_mupd hop hT h g hd hK
  | slice t x lo hi mx =>
    cases lo with
    | some lo => unfold feff at h; simp only [hop] at h; cases h
    | none =>
      cases hi with
      | none => unfold feff at h; simp only [hop] at h; cases h
      | some hi =>
        cases mx with
        | none => unfold feff at h; simp only [hop] at h; cases h
        | some mx => exact s_slice3 hop hT h g hd hK
  | call c =>
    have h' := h
    unfold feff at h'
    simp only [hop] at h'
    split at h'
    · rename_i m k t ts hc hx ht
      exact s_del hop hc hx ht hT h g hd hK
    · cases h'
  | _ => unfold feff at h; simp only [hop] at h; cases h
end
end Go.Proofs.Ytheanmfdfoefoaa.Hv
