/- The walk over an abstract heap, texts HvApp to HvFn in one. -/
import Derived.Test.YtheanmfdfoefoaaHvEff2
import Derived.Maps.RangeRun
import Derived.Orders
import Derived.OwnWalk
set_option linter.unusedVariables false
set_option linter.unusedSimpArgs false
set_option linter.unusedVariables false
set_option linter.unusedSimpArgs false
namespace Go.Proofs.Ytheanmfdfoefoaa.Hv
open Go Go.RowKit

section
variable {P : Program} {T : Tbl} {A : Vis} {N : Nat} {F : Nat → Nat → Prop} {w0 w w' : World} {gb0 gb gb' : Gb} {H0 H H' : Hp} {s s' : AS} {a : Act} {n n' : Nat} {W : Nat → Nat → Prop} {o : Oper} {K : Act → World → Prop} {Q : Exit → Act → World → Prop}
/-- A slice to be read, as a source. -/
theorem Reads.src {items : List (List AV)} {v : Value} {sz : Nat} (h : Reads w W gb items v) (hi : ∀ it ∈ items, it.length = sz) {tx e' : TypeId} (hk : P.underlying tx = some (.slice e')) :
    ∃ news, Src P sz tx v items.length news w ∧ RepL w W gb items.flatten news := by
  obtain ⟨sz', A, c, b, off, val, hi', rfl, hc, hm, ha, hcell⟩ := h
  have hfl := flatten_len hi
  have hat : ∀ (j : Nat) (u : Value), ((List.range items.flatten.length).map val)[j]? = some u → j < items.flatten.length ∧ u = val j := fun j u hu => by
    rw [List.getElem?_map, Option.map_eq_some_iff] at hu
    obtain ⟨k, hk, rfl⟩ := hu
    obtain ⟨hlt, e⟩ := List.getElem?_eq_some_iff.1 hk
    simp only [List.length_range] at hlt
    simp only [List.getElem_range] at e
    subst e
    exact ⟨hlt, rfl⟩
  have h1 : ∀ u ∈ (List.range items.flatten.length).map val, u.oneCell' = true := fun u hu => by
    obtain ⟨j, hj⟩ := List.mem_iff_getElem?.1 hu
    obtain ⟨hjn, rfl⟩ := hat j u hj
    exact (hcell j _ (List.getElem?_eq_getElem hjn)).2.1
  refine ⟨(List.range items.flatten.length).map val, Rd.src (sz := sz) ⟨A, c, rfl, hc, hm, by simp only [List.length_map, List.length_range]; exact hfl, fun hn => ?_⟩ h1 hk, ⟨by simp, h1, fun j x u hx hu => ?_⟩⟩
  · refine ⟨⟨b, off, none⟩, ha (fun e => by subst e; simp at hn), fun j u hu => ?_⟩
    obtain ⟨hj, rfl⟩ := hat j u hu
    rw [Addr.add_lit]
    exact (hcell j _ (List.getElem?_eq_getElem hj)).1
  · obtain ⟨hjn, rfl⟩ := hat j u hu
    exact (hcell j x hx).2.2
theorem setCells_row {g o : Nat} {t : TypeId} {fr : Nat × Nat} {cur : Array Value} {vs : List Value} (P : Program) (hg : w.heap[g]? = some (.cells cur t fr)) (hf : Cold cur.size fr) (hl : o + vs.length ≤ cur.size) (h1 : ∀ v ∈ vs, v.oneCell' = true) :
    w.setCells g o vs = w.setRow g (cur.toList.take o ++ vs ++ cur.toList.drop (o + vs.length)).toArray := by
  have a1 := run_storeCells_cells (P := P) g o vs 0 w (fun j hj => by simp [World.cell?, hg]; omega) (fun j hj => by
    simp only [World.frozen?, hg]
    rcases hf with h | h
    · simp; omega
    · simp; omega) h1
  have a2 := run_storeC P g o t vs 0 cur w hg hf (by simpa using hl) h1
  rw [a1] at a2
  injection a2 with _ a2
theorem frz_keep {gg size : Nat} {e : TypeId} {items : List (List AV)} {W' : Nat → Nat → Prop} (hc : Chg F gb H gg w w') (hk : ∀ b o u, ¬ Wr F gb H b o → w.cell? ⟨b, o, none⟩ = some u → w'.cell? ⟨b, o, none⟩ = some u ∧ ¬ W' b o) (he : Ext gb gb') (h : ObjRep P w (Wr F gb H) gb gg size (.frz e items)) : ObjRep P w' W' gb' gg size (.frz e items) := by
  obtain ⟨h0, cur, fr, h1, hf, h2, h3, h4, h5⟩ := h
  obtain ⟨cur', h1', h2'⟩ := hc.blk cur e fr h1
  have hcl : ∀ j (hlt : j < cur.size), w.cell? ⟨gg, j, none⟩ = some cur[j] := fun j hlt => by simp [World.cell?, h1, hlt]
  refine ⟨h0, cur', fr, h1', hf, h2'.trans h2, h3, ?_, fun o hlt => (hk gg o _ (h5 o hlt) (hcl o (by omega))).2⟩
  have : cur'.toList.take items.flatten.length = cur.toList.take items.flatten.length := take_same fun j hj => by
    have hlt : j < cur.size := by omega
    have := hc.cell j _ (h5 j hj) (hcl j hlt)
    simp only [World.cell?, h1'] at this
    rw [Array.getElem?_eq_getElem hlt]
    simpa using this
  rw [this]
  exact h4.keep hk he
/-- The row that is appended to moves to a new number. -/
theorem HeapOk.move {id gg size : Nat} {m : Bool} {e : TypeId} {items its' : List (List AV)} {old' : Option AO} (h : HeapOk P w F gb H n) (ho : H id = some (.row m e items)) (hg : gb id = some (gg, size)) (hc : Chg F gb H gg w w') (hle : items.flatten.length ≤ its'.flatten.length)
    (hold : old' = none ∨ (m = false ∧ old' = some (.frz e items))) (hr : ObjRep P w' (Wr F (gbn gb n (gg, size)) (upd (upd H id old') n (some (.row m e its')))) (gbn gb n (gg, size)) gg size (.row m e its')) :
    HeapOk P w' F (gbn gb n (gg, size)) (upd (upd H id old') n (some (.row m e its'))) (n + 1) ∧ (∀ b o, Wh (gbn gb n (gg, size)) (upd (upd H id old') n (some (.row m e its'))) b o → Wh gb H b o) ∧ (∀ b, Xh (gbn gb n (gg, size)) (upd (upd H id old') n (some (.row m e its'))) b → Xh gb H b) := by
  have hidn := (h.lt id gg size hg).1
  have hne : id ≠ n := by omega
  have hatH : ∀ j, j ≠ n → j ≠ id → upd (upd H id old') n (some (.row m e its')) j = H j := fun j h1 h2 => by rw [upd_other (fun e => h1 e.symm), upd_other (fun e => h2 e.symm)]
  have hatn : upd (upd H id old') n (some (.row m e its')) n = some (.row m e its') := upd_same _ _ _
  have hati : upd (upd H id old') n (some (.row m e its')) id = old' := by rw [upd_other (fun e => hne e.symm), upd_same]
  have hxold : ¬ exO old' := by
    rcases hold with rfl | ⟨_, rfl⟩ <;> exact fun h => h
  have hat : ∀ {j g t}, gbn gb n (gg, size) j = some (g, t) → (j = n ∧ g = gg ∧ t = size) ∨ (j ≠ n ∧ gb j = some (g, t)) := fun {j g t} hg => by
    unfold gbn at hg
    split at hg
    · injection hg with hg
      injection hg with e1 e2
      exact .inl ⟨by assumption, e1.symm, e2.symm⟩
    · exact .inr ⟨by assumption, hg⟩
  have hX : ∀ {j g t}, gbn gb n (gg, size) j = some (g, t) → exO (upd (upd H id old') n (some (.row m e its')) j) → ∃ i, gb i = some (g, t) ∧ exO (H i) ∧ (j = n → i = id) ∧ (j ≠ n → i = j ∧ j ≠ id) := fun {j g t} hj hx => by
    rcases hat hj with ⟨rfl, rfl, rfl⟩ | ⟨h1, h2⟩
    · exact ⟨id, hg, by rw [ho]; trivial, fun _ => rfl, fun h => absurd rfl h⟩
    · by_cases hji : j = id
      · subst hji; rw [hati] at hx; exact absurd hx hxold
      · rw [hatH j h1 hji] at hx
        exact ⟨j, h2, hx, fun h => absurd h h1, fun _ => ⟨rfl, hji⟩⟩
  have hwh : ∀ b o, Wh (gbn gb n (gg, size)) (upd (upd H id old') n (some (.row m e its'))) b o → Wh gb H b o := by
    rintro b o ⟨j, t, hj, hw⟩
    rcases hat hj with ⟨rfl, rfl, rfl⟩ | ⟨h1, h2⟩
    · rw [hatn] at hw
      refine ⟨id, _, hg, ?_⟩
      rw [ho]
      cases m with
      | true => trivial
      | false => exact Nat.le_trans hle hw
    · by_cases hji : j = id
      · subst hji; rw [hati] at hw; exact absurd (wrO_exO hw) hxold
      · rw [hatH j h1 hji] at hw; exact ⟨j, t, h2, hw⟩
  have hwr : ∀ b o, Wr F (gbn gb n (gg, size)) (upd (upd H id old') n (some (.row m e its'))) b o → Wr F gb H b o := fun b o hw => Or.imp_right (hwh b o) hw
  have hk : ∀ b o u, ¬ Wr F gb H b o → w.cell? ⟨b, o, none⟩ = some u → w'.cell? ⟨b, o, none⟩ = some u ∧ ¬ Wr F (gbn gb n (gg, size)) (upd (upd H id old') n (some (.row m e its'))) b o := fun b o u hn hcl => ⟨hc.keep b o u hn hcl, fun hw => hn (hwr b o hw)⟩
  have hxh : ∀ b, Xh (gbn gb n (gg, size)) (upd (upd H id old') n (some (.row m e its'))) b → Xh gb H b := by
    rintro b ⟨j, t, hj, hx⟩
    obtain ⟨i, h1, h2, _⟩ := hX hj hx
    exact ⟨i, t, h1, h2⟩
  have hfrz : ∀ {e1 : TypeId} {items1 : List (List AV)}, ObjRep P w (Wr F gb H) gb gg size (.frz e1 items1) → ObjRep P w' (Wr F (gbn gb n (gg, size)) (upd (upd H id old') n (some (.row m e its')))) (gbn gb n (gg, size)) gg size (.frz e1 items1) := fun h' => frz_keep hc hk (gbn_ext h _) h'
  refine ⟨⟨fun j g t hj => ?_, fun j hj => ?_, fun j o hj => ?_, fun i j g t t' hi hj hxi hxj => ?_, fun b o hf => by rw [hc.size]; exact h.FB b o hf, fun b o hf hx => h.FX b o hf (hxh b hx)⟩, hwh, hxh⟩
  · rcases hat hj with ⟨rfl, rfl, _⟩ | ⟨_, hj⟩
    · have := h.lt id g size hg; rw [hc.size]; omega
    · have := h.lt j g t hj; rw [hc.size]; omega
  · rw [hatH j (by omega) (by omega)]; exact h.new j (by omega)
  · by_cases hjn : j = n
    · subst hjn
      rw [hatn] at hj
      injection hj with hj
      subst hj
      exact .inl ⟨gg, size, by unfold gbn; rw [if_pos rfl], hr⟩
    · by_cases hji : j = id
      · subst hji
        rw [hati] at hj
        rcases hold with rfl | ⟨rfl, rfl⟩
        · cases hj
        · injection hj with hj
          subst hj
          refine .inl ⟨gg, size, gbn_ext h _ _ _ hg, hfrz ?_⟩
          rcases h.live j _ ho with ⟨g', t, hg', h0, cur, fr, h1, hf, h2, h3, h4⟩ | ⟨hn, _⟩
          · rw [hg] at hg'
            injection hg' with hg'
            injection hg' with e1 e2
            subst e1 e2
            exact ⟨h0, cur, fr, h1, hf, h2, h3, h4, fun o hlt => h.tip_cold ho hg hlt⟩
          · rw [hn] at hg; cases hg
      · rw [hatH j hjn hji] at hj
        rcases h.live j o hj with ⟨g', t, hg', hrr⟩ | ⟨hn, hh⟩
        · refine .inl ⟨g', t, gbn_ext h _ _ _ hg', ?_⟩
          by_cases hgg : g' = gg
          · subst hgg
            by_cases hxo : exO (some o)
            · exact absurd (h.one j id g' t size hg' hg (by rw [hj]; exact hxo) (by rw [ho]; trivial)) hji
            · cases o with
              | frz e' items' => exact frz_keep hc hk (gbn_ext h _) hrr
              | _ => exact absurd trivial hxo
          · exact hrr.keep (hc.oth g' hgg) hk (gbn_ext h _)
        · exact .inr ⟨by unfold gbn; rw [if_neg hjn]; exact hn, hh⟩
  · obtain ⟨i', h1, h2, h3, h4⟩ := hX hi hxi
    obtain ⟨j', h5, h6, h7, h8⟩ := hX hj hxj
    have heq := h.one i' j' g t t' h1 h5 h2 h6
    by_cases hin : i = n <;> by_cases hjn : j = n
    · omega
    · have := h3 hin; have := h8 hjn; omega
    · have := h4 hin; have := h7 hjn; omega
    · have := h4 hin; have := h8 hjn; omega
theorem move_wr {id gg size : Nat} {m : Bool} {e : TypeId} {items its' : List (List AV)} {old' : Option AO} (h : HeapOk P w F gb H n) (ho : H id = some (.row m e items)) (hg : gb id = some (gg, size)) (hle : items.flatten.length ≤ its'.flatten.length)
    (hold : old' = none ∨ (m = false ∧ old' = some (.frz e items))) (b o : Nat) (hw : Wr F (gbn gb n (gg, size)) (upd (upd H id old') n (some (.row m e its'))) b o) : Wr F gb H b o := by
  have hidn := (h.lt id gg size hg).1
  have hxold : ¬ exO old' := by
    rcases hold with rfl | ⟨_, rfl⟩ <;> exact fun h => h
  rcases hw with hf | ⟨j, t, hj, hw⟩
  · exact .inl hf
  · refine .inr ?_
    unfold gbn at hj
    split at hj
    · rename_i hjn
      subst hjn
      injection hj with hj
      injection hj with e1 e2
      subst e1 e2
      rw [upd_same] at hw
      refine ⟨id, _, hg, ?_⟩
      rw [ho]
      cases m with
      | true => trivial
      | false => exact Nat.le_trans hle hw
    · rename_i hjn
      rw [upd_other (fun e => hjn e.symm)] at hw
      by_cases hji : j = id
      · subst hji; rw [upd_same] at hw; exact absurd (wrO_exO hw) hxold
      · rw [upd_other (fun e => hji e.symm)] at hw; exact ⟨j, t, hj, hw⟩
/-- A row is given up. -/
theorem HeapOk.drop {id : Nat} {m : Bool} {e : TypeId} {items : List (List AV)} {old' : Option AO} (h : HeapOk P w F gb H n) (ho : H id = some (.row m e items)) (hold : old' = none ∨ (m = false ∧ old' = some (.frz e items) ∧ items ≠ [])) :
    HeapOk P w F gb (upd H id old') n ∧ (∀ b o, Wh gb (upd H id old') b o → Wh gb H b o) ∧ (∀ b, Xh gb (upd H id old') b → Xh gb H b) := by
  have hxold : ¬ exO old' := by
    rcases hold with rfl | ⟨_, rfl, _⟩ <;> exact fun h => h
  have hwh : ∀ b o, Wh gb (upd H id old') b o → Wh gb H b o := by
    rintro b o ⟨j, t, hj, hw⟩
    by_cases hji : j = id
    · subst hji; rw [upd_same] at hw; exact absurd (wrO_exO hw) hxold
    · rw [upd_other (fun e => hji e.symm)] at hw; exact ⟨j, t, hj, hw⟩
  have hex : ∀ j, exO (upd H id old' j) → exO (H j) := fun j hj => by
    by_cases hji : j = id
    · subst hji; rw [upd_same] at hj; exact absurd hj hxold
    · rwa [upd_other (fun e => hji e.symm)] at hj
  have hxh : ∀ b, Xh gb (upd H id old') b → Xh gb H b := fun b ⟨j, t, hj, hx⟩ => ⟨j, t, hj, hex j hx⟩
  have hk : ∀ b o u, ¬ Wr F gb H b o → w.cell? ⟨b, o, none⟩ = some u → w.cell? ⟨b, o, none⟩ = some u ∧ ¬ Wr F gb (upd H id old') b o := fun b o u hn hcl => ⟨hcl, fun hw => hn (Or.imp_right (hwh b o) hw)⟩
  have hidn : id < n := by
    rcases Nat.lt_or_ge id n with h' | h'
    · exact h'
    · rw [h.new id h'] at ho; cases ho
  refine ⟨⟨h.lt, fun j hj => by rw [upd_other (by omega)]; exact h.new j hj, fun j o hj => ?_, fun i j g t t' hi hj hxi hxj => h.one i j g t t' hi hj (hex i hxi) (hex j hxj), h.FB, fun b o hf hx => h.FX b o hf (hxh b hx)⟩, hwh, hxh⟩
  by_cases hji : j = id
  · subst hji
    rw [upd_same] at hj
    rcases hold with rfl | ⟨rfl, rfl, hne⟩
    · cases hj
    · injection hj with hj
      subst hj
      rcases h.live j _ ho with ⟨g', t, hg', h0, cur, fr, h1, hf, h2, h3, h4⟩ | ⟨hn, hh⟩
      · exact .inl ⟨g', t, hg', h0, cur, fr, h1, hf, h2, h3, h4.keep hk (Ext.refl _), fun o hlt => by
          have hlt2 : o < cur.size := by omega
          exact (hk g' o cur[o] (h.tip_cold ho hg' hlt) (by simp [World.cell?, h1, hlt2])).2⟩
      · obtain ⟨_, _, hh⟩ := hh
        injection hh with _ _ hh
        exact absurd hh hne
  · rw [upd_other (fun e => hji e.symm)] at hj
    rcases h.live j o hj with ⟨g', t, hg', hrr⟩ | hh
    · exact .inl ⟨g', t, hg', hrr.keep rfl hk (Ext.refl _)⟩
    · exact .inr hh
theorem Good.drop {id : Nat} {m : Bool} {e : TypeId} {items : List (List AV)} {old' : Option AO} (g : Good P N F w0 gb0 H0 s a w gb) (ho : s.heap id = some (.row m e items)) (hold : old' = none ∨ (m = false ∧ old' = some (.frz e items) ∧ items ≠ [])) : Good P N F w0 gb0 H0 (s.chg id old') a w gb := by
  obtain ⟨h1, h2, h3⟩ := g.ok.drop ho hold
  exact ⟨g.kept, g.ext, h1, fun b o hlt hw => g.wr0 b o hlt (h2 b o hw), fun b hlt hx => g.x0 b hlt (h3 b hx), g.size, g.defers, fun t => (g.slots t).keep (fun b o u hn hcl => ⟨hcl, fun hw => hn (Or.imp_right (h2 b o) hw)⟩) (Ext.refl _)⟩
/-- What becomes of the old number. -/
def oldO (m : Bool) (e : TypeId) (items : List (List AV)) : Option AO := bif m || items.isEmpty then none else some (.frz e items)
/-- The things of a slice or the bytes of a string. -/
def anews (T : Tbl) (H : Hp) (t : Nat) (y : AV) : Option (List (List AV)) := match y with
  | .lit (.string u) => bif T.strs.elem t then some (bytesA u) else none
  | y => match lk? T.sls t with
    | some _ => y.its? H
    | none => none
def fapp (T : Tbl) (A : Vis) (c : Call) (d : Option Nat) (s : AS) : Option AS :=
  match c.callee, c.args.toList, c.argTypes.toList, d with
  | .builtin .append, [x, y], [t, tx], some d => match lk? T.sls t, anews T s.heap tx (s.eval y) with
    | some I, some news => match s.eval x with
      | .rw id sz 0 len => match s.heap id with
        | some (.row m e items) => if ((len = items.length ∧ I.e = e ∧ sz = I.size) ∧ ∀ it ∈ news, it.length = I.size) ∧ (items.length + news.length) * I.bytes ≤ 140737488355328 then
            some (((s.chg id (oldO m e items)).fresh (.row m e (items ++ news))).set d (.rw s.next I.size 0 (items.length + news.length))) else none
        | _ => none
      | .lit v => bif isNilV v then (if (∀ it ∈ news, it.length = I.size) ∧ news.length * I.bytes ≤ 140737488355328 then
            some ((s.fresh (.row (A.muts.elem d) I.e news)).set d (.rw s.next I.size 0 news.length)) else none) else none
      | _ => none
    | _, _ => none
  | _, _, _, _ => none
theorem anews_src {t : TypeId} {y : Operand} {news : List (List AV)} {sz : Nat} (hT : T.Ok P) (h : anews T s.heap t (s.eval y) = some news) (hl : ∀ it ∈ news, it.length = sz) (g : Good P N F w0 gb0 H0 s a w gb) : ∃ ns, Src P sz t (a.eval y) news.length ns w ∧ RepL w (Wr F gb s.heap) gb news.flatten ns := by
  unfold anews at h
  split at h
  · rename_i u hu
    cases hst : T.strs.elem t with
    | false => rw [hst] at h; cases h
    | true =>
      rw [hst] at h
      simp only [cond_true, Option.some.injEq] at h
      subst h
      have hv : a.eval y = .string u := by have := g.eval y; rw [hu] at this; exact rep_lit this
      have hul : u.data.toList.length = u.size := by simp
      rw [hv]
      refine ⟨byteCells u, ?_, ?_⟩
      · by_cases h0 : u.size = 0
        · have hd : u.data.toList = [] := List.eq_nil_of_length_eq_zero (by rw [hul]; exact h0)
          have hb : bytesA u = [] := by unfold bytesA; rw [hd]; rfl
          have hc : byteCells u = [] := by unfold byteCells; rw [hd]; rfl
          rw [hb, hc]
          exact ⟨.inr (hT.strs t (List.elem_iff.1 hst)), fun w' => by simp [Builtin.lenOf, h0], by simp [Builtin.firstCells], by simp [Builtin.firstCells], by simp, by simp⟩
        · have hs1 : sz = 1 := by
            cases hd : u.data.toList with
            | nil => rw [hd] at hul; simp at hul; omega
            | cons b l => have := hl (byteA b) (by unfold bytesA; rw [hd]; exact List.mem_cons_self); exact this.symm
          subst hs1
          have := Src.ofString (P := P) w (hT.strs t (List.elem_iff.1 hst)) u
          have hbl : (bytesA u).length = u.size := by unfold bytesA; rw [List.length_map]; exact hul
          rw [hbl]; exact this
      · unfold bytesA byteCells
        rw [byteA_flat]
        have := repL_lits (w := w) (W := Wr F gb s.heap) (gb := gb) (us := u.data.toList.map fun b => Value.int .u8 b.toNat) (by rw [List.all_eq_true]; intro y hy; obtain ⟨v, hv, rfl⟩ := List.mem_map.1 hy; obtain ⟨b, _, rfl⟩ := List.mem_map.1 hv; rfl)
        rwa [List.map_map] at this
  · split at h
    · rename_i I hI
      exact (rep_its g.ok (g.eval y) h).src hl (sls_ok hT hI).ht
    · cases h
theorem oldO_cases (m : Bool) (e : TypeId) (items : List (List AV)) : oldO m e items = none ∨ (m = false ∧ oldO m e items = some (.frz e items) ∧ items ≠ []) := by
  unfold oldO
  cases m with
  | true => exact .inl rfl
  | false =>
    cases items with
    | nil => exact .inl rfl
    | cons i l => exact .inr ⟨rfl, rfl, by simp⟩
theorem Good.move {id gg size : Nat} {m : Bool} {e : TypeId} {items its' : List (List AV)} {old' : Option AO} (g : Good P N F w0 gb0 H0 s a w gb) (ho : s.heap id = some (.row m e items)) (hg : gb id = some (gg, size)) (hc : Chg F gb s.heap gg w w') (hcw : ∀ o u, w.cell? ⟨gg, o, none⟩ = some u → Wh gb s.heap gg o ∨ w'.cell? ⟨gg, o, none⟩ = some u) (hle : items.flatten.length ≤ its'.flatten.length)
    (hold : old' = none ∨ (m = false ∧ old' = some (.frz e items))) (hr : ObjRep P w' (Wr F (gbn gb s.next (gg, size)) (upd (upd s.heap id old') s.next (some (.row m e its')))) (gbn gb s.next (gg, size)) gg size (.row m e its')) :
    Good P N F w0 gb0 H0 ((s.chg id old').fresh (.row m e its')) a w' (gbn gb s.next (gg, size)) := by
  obtain ⟨h1, h2, h3⟩ := g.ok.move ho hg hc hle hold hr
  have hx : Xh gb s.heap gg := ⟨id, size, hg, by rw [ho]; trivial⟩
  refine ⟨g.kept.trans (X' := fun k => k = gg) (W' := fun b o => b = gg ∧ Wh gb s.heap gg o) ⟨hc.os, hc.tape, hc.output, by rw [hc.size]; exact Nat.le_refl _, fun k _ hk => hc.oth k hk, fun b o u hn hcl => ?_⟩ (fun k hk he => ?_) (fun b o hb hbw => ?_), g.ext.trans (gbn_ext g.ok _), h1, fun b o hlt hw => g.wr0 b o hlt (h2 b o hw), fun b hlt hx => g.x0 b hlt (h3 b hx), g.size, g.defers, fun t => (g.slots t).keep (fun b o u hn hcl => ⟨hc.keep b o u hn hcl, fun hw => hn (Or.imp_right (h2 b o) hw)⟩) (gbn_ext g.ok _)⟩
  · by_cases hb : b = gg
    · subst hb
      rcases hcw o u hcl with h | h
      · exact absurd ⟨rfl, h⟩ hn
      · exact h
    · rw [World.cell?_of_block (w := w) (a := ⟨b, o, none⟩) (hc.oth b hb)]; exact hcl
  · subst he; exact g.x0 k hk hx
  · obtain ⟨rfl, hbw⟩ := hbw; exact g.wr0 b o hb hbw
/-- A row that grew into a new block. -/
theorem app_grow {I : SlI} {t tx ty : TypeId} {base : Option Addr} {len c : Nat} {x : Value} {m : Bool} {items news : List (List AV)} {ns olds : List Value} (hT : T.Ok P) (hI : lk? T.sls t = some I) (hil : ∀ it ∈ items ++ news, it.length = I.size) (hlen : len = items.length) (hs : Src P I.size tx x news.length ns w) (hns : RepL w (Wr F gb s.heap) gb news.flatten ns) (hol : RepL w (Wr F gb s.heap) gb items.flatten olds)
    (hold : (Builtin.firstCells I.size len (.slice base len c)).run P w.drew = .ok olds.toArray w.drew) (hgc : c < len + news.length) (hb : (items.length + news.length) * I.bytes ≤ 140737488355328) (g : Good P N F w0 gb0 H0 s a w gb) :
    ∃ v w' gb', (Builtin.append_ #[t, tx] ty #[.slice base len c, x]).run P w = .ok v w' ∧ Good P N F w0 gb0 H0 (s.fresh (.row m I.e (items ++ news))) a w' gb' ∧ Rep w' (Wr F gb' (s.fresh (.row m I.e (items ++ news))).heap) gb' (.rw s.next I.size 0 (items.length + news.length)) v := by
  obtain ⟨hu, ⟨i, hi, hz, hsi, hby⟩, hzs, hsz, hbp⟩ := sls_ok hT hI
  subst hlen
  have h63 : items.length + news.length ≤ maxLen := by
    have := Nat.le_mul_of_pos_right (items.length + news.length) hbp
    simp only [maxLen]; omega
  have hge := grownCap_ge w (items.length + news.length) c I.e
  have hrun := run_append_grow_src (P := P) w t tx ty I.e i I.zero hu hi hz base items.length c olds (by rw [hsi]; exact hold) x news.length ns (by rw [hsi]; exact hs) hgc (by simp only [maxLen] at h63; omega) (growslice_fits hgc (by rw [hby]; exact hb))
  have hL := hol.append hns
  have hfl : (items ++ news).flatten.length = (items.length + news.length) * I.size := by rw [flatten_len hil, List.length_append]
  have hsize : ((olds ++ ns).toArray ++ Builtin.zeroCells I.zero.cells (grownCap w (items.length + news.length) c I.e - (items.length + news.length))).size = grownCap w (items.length + news.length) c I.e * I.size := by
    have h1 : (olds ++ ns).length = (items.length + news.length) * I.size := by rw [← hL.len, ← List.flatten_append, hfl]
    simp only [Array.size_append, List.size_toArray, size_zeroCells, hzs, h1, ← Nat.add_mul]
    congr 1
    omega
  obtain ⟨c1, c2, c3⟩ := dalloc_below w (.cells ((olds ++ ns).toArray ++ Builtin.zeroCells I.zero.cells (grownCap w (items.length + news.length) c I.e - (items.length + news.length))) I.e)
  refine ⟨_, _, _, hrun, g.freshRow (m := m) (items := items ++ news) (by rw [szOf_sl hT hI]; exact hil) (by rw [hfl, hsize]; exact Nat.mul_le_mul_right _ hge) (cold0 _) ?_ c1 c2 c3, ?_⟩
  · have h1 : (olds ++ ns).length = (items ++ news).flatten.length := by rw [← hL.len, ← List.flatten_append]
    have : (((olds ++ ns).toArray ++ Builtin.zeroCells I.zero.cells (grownCap w (items.length + news.length) c I.e - (items.length + news.length))).toList.take (items ++ news).flatten.length) = olds ++ ns := by
      simp only [Array.toList_append]
      rw [← h1]
      exact List.take_left
    rw [this, List.flatten_append]
    exact hL
  · have := Rep.rw (w := w.drew.alloc (.cells ((olds ++ ns).toArray ++ Builtin.zeroCells I.zero.cells (grownCap w (items.length + news.length) c I.e - (items.length + news.length))) I.e)) (W := Wr F (gbn gb s.next (w.heap.size, ((olds ++ ns).toArray ++ Builtin.zeroCells I.zero.cells (grownCap w (items.length + news.length) c I.e - (items.length + news.length))).size)) (s.fresh (.row m I.e (items ++ news))).heap) s.next I.size 0 (items.length + news.length) _ _ (grownCap w (items.length + news.length) c I.e) (gbn_at gb s.next (w.heap.size, ((olds ++ ns).toArray ++ Builtin.zeroCells I.zero.cells (grownCap w (items.length + news.length) c I.e - (items.length + news.length))).size)) (by rw [hsize]; simp) hge (grownCap_le_maxLen w _ c I.e h63)
    rwa [Nat.zero_mul] at this
theorem rep_rw_inv {id sz ko len : Nat} {v : Value} (h : Rep w W gb (.rw id sz ko len) v) : (∃ g size c, gb id = some (g, size) ∧ v = .slice (some ⟨g, ko * sz, none⟩) len c ∧ ko * sz + c * sz ≤ size ∧ len ≤ c ∧ c ≤ maxLen) ∨ (v = .slice none 0 0 ∧ ko = 0 ∧ len = 0) ∨ ∃ g size off, gb id = some (g, size) ∧ v = .slice (some ⟨g, off, none⟩) 0 0 ∧ len = 0 := by
  cases h with
  | rw _ _ _ _ g size c hg hs hc hm => exact .inl ⟨g, size, c, hg, rfl, hs, hc, hm⟩
  | rwn => exact .inr (.inl ⟨rfl, rfl, rfl⟩)
  | rwz _ _ _ off g size hg => exact .inr (.inr ⟨g, size, off, hg, rfl, rfl⟩)
theorem s_app {c : Call} (hop : o.op = .call c) (hT : T.Ok P) (h : fapp T A c o.dst s = some s') (g : Good P N F w0 gb0 H0 s a w gb) (hd : ∀ k, o.dst = some k → k < N) (hK : ∀ a' w', R P N F w0 gb0 H0 s' a' w' → K a' w') : o.wp P a w K Q := by
  unfold fapp at h
  obtain ⟨callee, args, argTypes⟩ := c
  simp only at h
  split at h
  · rename_i x y t tx d hx hat hod
    obtain rfl : args = #[x, y] := Array.toList_inj.1 hx
    obtain rfl : argTypes = #[t, tx] := Array.toList_inj.1 hat
    have hwp : ∀ {v : Value} {w' : World}, (Builtin.append_ #[t, tx] o.type #[a.eval x, a.eval y]).run P w = .ok v w' → K (a.put o.dst v) w' → o.wp P a w K Q := by
      intro v w' hr hk
      refine wp_val (v := v) (w' := w') ?_ hk
      unfold execOp
      simp only [hop, resolve, invoke, builtin, Sem.run_bind, Sem.run_pure, Result.andThen_ok, List.map_toArray, List.map_cons, List.map_nil, hr]
    split at h
    · rename_i I news hI hnews
      obtain ⟨hu, ⟨i, hi, hz, hsi, hby⟩, hzs, hsz, hbp⟩ := sls_ok hT hI
      split at h
      · rename_i id sz len hxe
        split at h
        · rename_i m e items ho
          split at h
          · rename_i hc
            obtain ⟨⟨⟨hlen, hIe, hsz'⟩, hnl⟩, hb⟩ := hc
            simp only [Option.some.injEq] at h
            subst h hlen hIe hsz'
            obtain ⟨ns, hsrc, hns⟩ := anews_src hT hnews hnl g
            obtain ⟨h0, hbk⟩ := g.ok.rowAt ho (.inl ⟨m, rfl⟩)
            rw [szOf_sl hT hI] at h0
            have hil : ∀ it ∈ items ++ news, it.length = I.size := fun it hit => (List.mem_append.1 hit).elim (h0 it) (hnl it)
            have he := g.eval x
            rw [hxe] at he
            have gd := g.drop (old' := oldO m I.e items) ho (oldO_cases m I.e items)
            -- growing
            have grow : ∀ (base : Option Addr) (c : Nat) (olds : List Value), a.eval x = .slice base items.length c → c < items.length + news.length → RepL w (Wr F gb s.heap) gb items.flatten olds → (Builtin.firstCells I.size items.length (.slice base items.length c)).run P w.drew = .ok olds.toArray w.drew → o.wp P a w K Q := by
              intro base c olds hv hgc hol hold
              have hk : ∀ {cs us}, RepL w (Wr F gb s.heap) gb cs us → RepL w (Wr F gb (s.chg id (oldO m I.e items)).heap) gb cs us := fun hr => hr.keep (fun b o u hn hcl => ⟨hcl, fun hw => hn (Or.imp_right ((g.ok.drop ho (oldO_cases m I.e items)).2.1 b o) hw)⟩) (Ext.refl _)
              obtain ⟨v, w', gb', hrun, hg', hr'⟩ := app_grow (ty := o.type) (m := m) (s := s.chg id (oldO m I.e items)) hT hI hil rfl hsrc (hk hns) (hk hol) hold hgc hb gd
              rw [← hv] at hrun
              refine hwp hrun (hK _ _ ⟨gb', ?_⟩)
              rw [hod]
              exact hg'.put (d := some d) (fun k hk => hd k (by rw [hod]; exact hk)) hr'
            have hI' : ∀ {x : Nat}, x * i.size = x * I.size := fun {x} => by rw [hsi]
            have hsrc' : Src P i.size tx (a.eval y) news.length ns w := by rw [hsi]; exact hsrc
            have hnil : items.length = 0 → items = [] := fun h => List.eq_nil_of_length_eq_zero h
            have hfl0 := flatten_len h0
            have oldc : oldO m I.e items = none ∨ (m = false ∧ oldO m I.e items = some (.frz I.e items)) := by
              rcases oldO_cases m I.e items with h | ⟨h1, h2, _⟩
              · exact .inl h
              · exact .inr ⟨h1, h2⟩
            rcases rep_rw_inv he with ⟨gg, size, c, hg, hv, hs, hlc, hcm⟩ | ⟨hv, _, h00⟩ | ⟨gg, size, off, hg, hv, h00⟩
            · rw [Nat.zero_mul] at hv hs
              rcases hbk with ⟨hn, _⟩ | ⟨g', size', cur, fr, hg', hblk, hf, hcs, hle, hrl, _⟩
              · rw [hn] at hg; cases hg
              · rw [hg] at hg'
                injection hg' with hg'
                injection hg' with e1 e2
                subst e1 e2 hcs
                by_cases hgc : c < items.length + news.length
                · refine grow (some ⟨gg, 0, none⟩) c _ hv hgc hrl (run_firstCells_some w.drew I.size items.length ⟨gg, 0, none⟩ items.length c _ (by rw [← hrl.len, hfl0]) fun j u hu => ?_)
                  rw [Addr.add_lit, Nat.zero_add]
                  rw [List.getElem?_take] at hu
                  split at hu
                  · exact cell_of (w := w.drew) hblk hu
                  · cases hu
                · have hfit : items.length * I.size + ns.length ≤ cur.size := by
                    rw [hsrc.newsLen, ← Nat.add_mul]
                    exact Nat.le_trans (Nat.mul_le_mul_right I.size (Nat.le_of_not_lt hgc)) (by rw [Nat.zero_add] at hs; exact hs)
                  have hr := run_append_room_src (P := P) w t tx o.type I.e i hu hi gg 0 items.length c (a.eval y) news.length ns hsrc' (by omega) (fun j hj => by
                      rw [Nat.zero_add, hsi]
                      have : items.length * I.size + j < cur.size := by omega
                      simp [World.cell?, hblk, this]) (fun j hj => by
                      rw [Nat.zero_add, hsi]
                      simp only [World.frozen?, hblk]
                      rcases hf with h | h
                      · simp; omega
                      · simp; omega)
                  rw [Nat.zero_add, hsi, setCells_row P hblk hf hfit hsrc.one] at hr
                  rw [← hv] at hr
                  obtain ⟨cur', hcur'⟩ : ∃ cur' : Array Value, cur' = (cur.toList.take (items.length * I.size) ++ ns ++ cur.toList.drop (items.length * I.size + ns.length)).toArray := ⟨_, rfl⟩
                  rw [← hcur'] at hr
                  have a1 : (cur.toList.take (items.length * I.size)).length = items.length * I.size := by rw [List.length_take, Array.length_toList]; exact Nat.min_eq_left (Nat.le_trans (Nat.le_add_right _ _) hfit)
                  have hsz' : cur'.size = cur.size := by
                    rw [hcur', List.size_toArray, List.length_append, List.length_append, a1, List.length_drop, Array.length_toList]; exact Nat.add_sub_of_le hfit
                  have hwhg : ∀ k, items.length * I.size ≤ k → Wh gb s.heap gg k := fun k hk => ⟨id, cur.size, hg, by
                    rw [ho]
                    cases m with
                    | true => trivial
                    | false => show items.flatten.length ≤ k; rw [hfl0]; exact hk⟩
                  have hcellk : ∀ k u, k < items.length * I.size → w.cell? ⟨gg, k, none⟩ = some u → (w.setRow gg cur').cell? ⟨gg, k, none⟩ = some u := fun k u hk hc => by
                    rw [cell_setRow_same w gg k cur cur' I.e fr hblk]
                    simp only [World.cell?, hblk] at hc
                    rw [← Array.getElem?_toList, hcur']
                    simp only
                    rw [List.append_assoc, List.getElem?_append_left (by rw [a1]; exact hk), List.getElem?_take_of_lt hk]
                    simpa using hc
                  have hch : Chg F gb s.heap gg w (w.setRow gg cur') := ⟨rfl, rfl, rfl, by simp, fun k hk => setRow_other w gg k _ hk, fun k u hn hc => by
                      rcases Nat.lt_or_ge k (items.length * I.size) with h | h
                      · exact hcellk k u h hc
                      · exact absurd (Or.inr (hwhg k h)) hn, fun cur2 e2 fr2 h2 => ⟨cur', by rw [hblk] at h2; injection h2 with h2; injection h2 with q1 q2 q3; subst q1 q2 q3; exact ⟨setRow_heap w gg _ _ _ _ hblk, hsz'⟩⟩⟩
                  have hmv := g.move (old' := oldO m I.e items) (its' := items ++ news) ho hg hch (fun k u hc => by
                      rcases Nat.lt_or_ge k (items.length * I.size) with h | h
                      · exact .inr (hcellk k u h hc)
                      · exact .inl (hwhg k h)) (by simp) oldc ⟨by rw [szOf_sl hT hI]; exact hil, cur', fr, setRow_heap w gg _ _ _ _ hblk, hf, hsz', by rw [flatten_len hil, List.length_append, Nat.add_mul]; rw [hsrc.newsLen] at hfit; exact hfit, ?_⟩
                  · refine hwp hr (hK _ _ ⟨gbn gb s.next (gg, cur.size), ?_⟩)
                    rw [hod]
                    refine hmv.put (d := some d) (fun k hk => hd k (by rw [hod]; exact hk)) ?_
                    have := Rep.rw (w := w.setRow gg cur') (W := Wr F (gbn gb s.next (gg, cur.size)) ((s.chg id (oldO m I.e items)).fresh (.row m I.e (items ++ news))).heap) s.next I.size 0 (items.length + news.length) gg cur.size c (gbn_at gb s.next (gg, cur.size)) (by rw [Nat.zero_mul]; exact hs) (by omega) hcm
                    rwa [Nat.zero_mul] at this
                  · have hkk : ∀ b o u, ¬ Wr F gb s.heap b o → w.cell? ⟨b, o, none⟩ = some u → (w.setRow gg cur').cell? ⟨b, o, none⟩ = some u ∧ ¬ Wr F (gbn gb s.next (gg, cur.size)) (upd (upd s.heap id (oldO m I.e items)) s.next (some (.row m I.e (items ++ news)))) b o := fun b o u hn hc => ⟨hch.keep b o u hn hc, fun hw => hn (move_wr g.ok ho hg (by simp) oldc b o hw)⟩
                    have hcut : cur'.toList.take (items ++ news).flatten.length = cur.toList.take items.flatten.length ++ ns := by
                      rw [hcur', flatten_len hil, hfl0, List.length_append, Nat.add_mul, ← hsrc.newsLen]
                      simp only
                      exact List.take_left' (by rw [List.length_append, a1])
                    rw [hcut, List.flatten_append]
                    exact (hrl.append hns).keep hkk (gbn_ext g.ok _)
            · have := hnil h00
              subst this
              by_cases hm : news.length = 0
              · obtain rfl := List.eq_nil_of_length_eq_zero hm
                have hn0 : ns = [] := List.eq_nil_of_length_eq_zero (by simpa using hsrc.newsLen)
                subst hn0
                have hsrc0 : (Builtin.firstCells i.size 0 (a.eval y)).run P w = .ok #[] w := hsrc'.cells
                have hrun : (Builtin.append_ #[t, tx] o.type #[a.eval x, a.eval y]).run P w = .ok (.slice none 0 0) w := by
                  rw [hv]
                  rcases hsrc.kind with ⟨e', hk⟩ | hk <;> simp [Builtin.append_, run_underlying hu, run_underlying hk, sizeOf, typeInfo, hi, hsrc'.len, hsrc0]
                refine hwp hrun (hK _ _ ⟨gb, ?_⟩)
                rw [hod]
                exact gd.freshNil.put (d := some d) (fun k hk => hd k (by rw [hod]; exact hk)) (Rep.rwn _ _)
              · exact grow none 0 [] hv (by simp; omega) RepL.nil (by simp [Builtin.firstCells])
            · have := hnil h00
              subst this
              by_cases hm : news.length = 0
              · obtain rfl := List.eq_nil_of_length_eq_zero hm
                have hn0 : ns = [] := List.eq_nil_of_length_eq_zero (by simpa using hsrc.newsLen)
                subst hn0
                have hsrc0 : (Builtin.firstCells i.size 0 (a.eval y)).run P w = .ok #[] w := hsrc'.cells
                have hrun : (Builtin.append_ #[t, tx] o.type #[a.eval x, a.eval y]).run P w = .ok (.slice (some ⟨gg, off, none⟩) 0 0) w := by
                  rw [hv]
                  rcases hsrc.kind with ⟨e', hk⟩ | hk <;> simp [Builtin.append_, run_underlying hu, run_underlying hk, sizeOf, typeInfo, hi, hsrc'.len, hsrc0, storeCells]
                rcases hbk with ⟨hn, _⟩ | ⟨g', size', cur, fr, hg', hblk, hf, hcs, hle, hrl, _⟩
                · rw [hn] at hg; cases hg
                · rw [hg] at hg'
                  injection hg' with hg'
                  injection hg' with e1 e2
                  subst e1 e2
                  have hmv := g.move (old' := oldO m I.e []) (its' := [] ++ []) ho hg (Chg.self gg) (fun k u hc => .inr hc) (by simp) oldc ⟨by simp, cur, fr, hblk, hf, hcs, by simp, by simpa using RepL.nil⟩
                  refine hwp hrun (hK _ _ ⟨gbn gb s.next (gg, size), ?_⟩)
                  rw [hod]
                  exact hmv.put (d := some d) (fun k hk => hd k (by rw [hod]; exact hk)) (Rep.rwz _ _ _ _ _ _ (gbn_at gb s.next (gg, size)))
              · exact grow (some ⟨gg, off, none⟩) 0 [] hv (by simp; omega) RepL.nil (run_firstCells_some w.drew I.size 0 ⟨gg, off, none⟩ 0 0 [] (by simp) (by simp))
          · cases h
        · cases h
      · rename_i v hxe
        cases hn : isNilV v with
        | false => rw [hn] at h; cases h
        | true =>
          rw [hn] at h
          simp only [cond_true] at h
          split at h
          · rename_i hc
            obtain ⟨hnl, hb⟩ := hc
            simp only [Option.some.injEq] at h
            subst h
            obtain ⟨ns, hsrc, hns⟩ := anews_src hT hnews hnl g
            have he := g.eval x
            rw [hxe] at he
            have hv := rep_lit he
            unfold isNilV at hn
            split at hn
            · by_cases hm : news.length = 0
              · obtain rfl := List.eq_nil_of_length_eq_zero hm
                have hn0 : ns = [] := List.eq_nil_of_length_eq_zero (by simpa using hsrc.newsLen)
                subst hn0
                have hsrc' : Src P i.size tx (a.eval y) 0 [] w := by rw [hsi]; exact hsrc
                have hsrc0 : (Builtin.firstCells i.size 0 (a.eval y)).run P w = .ok #[] w := hsrc'.cells
                have hrun : (Builtin.append_ #[t, tx] o.type #[a.eval x, a.eval y]).run P w = .ok (.slice none 0 0) w := by
                  rw [hv]
                  rcases hsrc.kind with ⟨e', hk⟩ | hk <;> simp [Builtin.append_, run_underlying hu, run_underlying hk, sizeOf, typeInfo, hi, hsrc'.len, hsrc0]
                refine hwp hrun (hK _ _ ⟨gb, ?_⟩)
                rw [hod]
                exact g.freshNil.put (d := some d) (fun k hk => hd k (by rw [hod]; exact hk)) (Rep.rwn _ _)
              · have := app_grow (ty := o.type) (m := A.muts.elem d) (items := []) (base := none) (len := 0) (c := 0) (olds := []) hT hI (by simpa using hnl) rfl hsrc hns RepL.nil (by simp [Builtin.firstCells]) (by omega) (by simpa using hb) g
                obtain ⟨v, w', gb', hrun, hg', hr'⟩ := this
                rw [← hv] at hrun
                refine hwp hrun (hK _ _ ⟨gb', ?_⟩)
                rw [hod]
                simp only [List.nil_append, List.length_nil, Nat.zero_add] at hg' hr'
                exact hg'.put (d := some d) (fun k hk => hd k (by rw [hod]; exact hk)) hr'
            · cases hn
          · cases h
      · cases h
    · cases h
  · cases h
end
end Go.Proofs.Ytheanmfdfoefoaa.Hv
set_option linter.unusedVariables false
set_option linter.unusedSimpArgs false
namespace Go.Proofs.Ytheanmfdfoefoaa.Hv
open Go Go.RowKit

def spliceL (items : List (List AV)) (k : Nat) (news : List (List AV)) : List (List AV) := items.take k ++ news ++ items.drop (k + news.length)
/-- Further operations that change the heap. -/
def fmore (T : Tbl) (A : Vis) (o : Oper) (s : AS) : Option AS :=
  match o.op with
  | .mapEntry t m k => match o.dst, lk? T.maps t, s.eval m with
    | some d, some I, .mp id => bif keyKindH T s.heap I.key (s.eval k) then (match s.heap id with
      | some (.map es clock) => match kfind s.heap (s.eval k) es with
        | some (some (i, _)) => match es[i]? with
          | some e => some ((s.chg id (some (.map (es.set i ⟨s.eval k, e.val, e.born⟩) clock))).set d (.tup [e.val, .lit (.int .i64 (e.born : Int))]))
          | none => none
        | some none => some ((s.chg id (some (.map (es ++ [⟨s.eval k, .lit I.zero, clock⟩]) (clock + 1)))).set d (.tup [.lit I.zero, .lit (.int .i64 (clock : Int))]))
        | none => none
      | _ => none) else none
    | _, _, _ => none
  | .entryStore _ m st x => match s.eval m, (s.eval st).int? with
    | .mp id, some (_, b) => match s.heap id with
      | some (.map es clock) => match es.findIdx? (fun e => (e.born : Int) == b) with
        | some i => match es[i]? with
          | some e => some ((s.chg id (some (.map (es.set i ⟨e.key, s.eval x, e.born⟩) clock))).put o.dst .dead)
          | none => none
        | none => none
      | _ => none
    | _, _ => none
  | .call c => match c.callee, c.args.toList, c.argTypes.toList with
    | .builtin .copy, [x, y], [t, ty] => match lk? T.sls t, anews T s.heap ty (s.eval y) with
      | some I, some news => if ∀ it ∈ news, it.length = I.size then (match s.eval x with
        | .rw id sz ko len => match s.heap id with
          | some (.row true e items) => if (sz = I.size ∧ news.length ≤ len) ∧ (ko + len ≤ items.length ∧ ∀ it ∈ items, it.length = sz) then some ((s.chg id (some (.row true e (spliceL items ko news)))).put o.dst (.lit (.int .i64 (news.length : Int)))) else none
          | _ => none
        | .ra id off len => match s.heap id with
          | some (.cells cs) => if (I.size = 1 ∧ news.length ≤ len) ∧ off + len ≤ cs.length then some ((s.chg id (some (.cells (setR cs off news.flatten)))).put o.dst (.lit (.int .i64 (news.length : Int)))) else none
          | _ => none
        | _ => none) else none
      | _, _ => none
    | .builtin .append, [x, y], [t, ty] => match lk? T.sls t, anews T s.heap ty (s.eval y), s.eval x with
      | some I, some news, .rc id sz len cp => match s.heap id with
        | some (.row true e items) => if ((sz = I.size ∧ e = I.e) ∧ (0 < cp ∧ items.length = cp)) ∧ len + news.length ≤ cp ∧ ∀ it ∈ news, it.length = I.size then some ((s.chg id (some (.row true e (spliceL items len news)))).put o.dst (.rc id sz (len + news.length) cp)) else none
        | _ => none
      | _, _, _ => none
    | .builtin .clear, [x], [t] => match lk? T.sls t, s.eval x with
      | some I, .rw id sz ko len => match s.heap id with
        | some (.row true e items) => if (sz = I.size ∧ ko + len ≤ items.length ∧ ∀ it ∈ items, it.length = sz) ∧ (zeroA I.zero).all AV.isOne = true then some ((s.chg id (some (.row true e (spliceL items ko (List.replicate len (zeroA I.zero)))))).put o.dst (.tup [])) else none
        | _ => none
      | _, _ => none
    | _, _, _ => none
  | _ => none
section
variable {P : Program} {T : Tbl} {A : Vis} {N : Nat} {F : Nat → Nat → Prop} {w0 w w' : World} {gb0 gb gb' : Gb} {H0 H H' : Hp} {s s' : AS} {a : Act} {n n' : Nat} {W : Nat → Nat → Prop} {o : Oper} {K : Act → World → Prop} {Q : Exit → Act → World → Prop}
theorem splice_flat : ∀ {items : List (List AV)} {sz k : Nat} {news : List (List AV)}, (∀ it ∈ items, it.length = sz) → (∀ it ∈ news, it.length = sz) → k + news.length ≤ items.length → (spliceL items k news).flatten = setR items.flatten (k * sz) news.flatten := by
  intro items sz k news hi hn hk
  unfold spliceL setR
  rw [List.flatten_append, List.flatten_append]
  have tk : ∀ (l : List (List AV)) (j : Nat), (∀ it ∈ l, it.length = sz) → j ≤ l.length → (l.take j).flatten = l.flatten.take (j * sz) ∧ (l.drop j).flatten = l.flatten.drop (j * sz) := by
    intro l
    induction l with
    | nil => intro j _ hj; obtain rfl : j = 0 := by simpa using hj
             simp
    | cons a l ih =>
      intro j hl hj
      cases j with
      | zero => simp
      | succ j =>
        obtain ⟨h1, h2⟩ := ih j (fun it h => hl it (List.mem_cons_of_mem _ h)) (by simpa using hj)
        have ha := hl a List.mem_cons_self
        rw [List.take_succ_cons, List.drop_succ_cons, List.flatten_cons, List.flatten_cons, h1, h2, Nat.succ_mul, Nat.add_comm (j * sz) sz]
        refine ⟨?_, ?_⟩
        · have e1 : List.take (sz + j * sz) a = a := List.take_of_length_le (by rw [ha]; exact Nat.le_add_right _ _)
          rw [List.take_append, ha, e1, Nat.add_sub_cancel_left]
        · have e1 : List.drop (sz + j * sz) a = [] := List.drop_of_length_le (by rw [ha]; exact Nat.le_add_right _ _)
          rw [List.drop_append, ha, e1, Nat.add_sub_cancel_left, List.nil_append]
  rw [(tk items k hi (by omega)).1, (tk items (k + news.length) hi hk).2, flatten_len hn, Nat.add_mul]
theorem splice_nil (items : List (List AV)) (k : Nat) : spliceL items k [] = items := by
  unfold spliceL; rw [List.append_nil, List.length_nil, Nat.add_zero, List.take_append_drop]
theorem setR_nil (cs : List AV) (k : Nat) : setR cs k [] = cs := by
  unfold setR; rw [List.append_nil, List.length_nil, Nat.add_zero, List.take_append_drop]
theorem splice_mem {items : List (List AV)} {k : Nat} {news : List (List AV)} {it : List AV} (h : it ∈ spliceL items k news) : it ∈ items ∨ it ∈ news := by
  unfold spliceL at h
  rcases List.mem_append.1 h with h | h
  · rcases List.mem_append.1 h with h | h
    · exact .inl (List.mem_of_mem_take h)
    · exact .inr h
  · exact .inl (List.mem_of_mem_drop h)
theorem chg_self {id : Nat} {oo : AO} (h : s.heap id = some oo) : s.chg id (some oo) = s := by
  have : upd s.heap id (some oo) = s.heap := by
    funext j
    by_cases hj : id = j
    · subst hj; rw [upd_same, h]
    · rw [upd_other hj]
  unfold AS.chg; rw [this]
/-- Cells of a row are written. -/
theorem write_row {id gg size off : Nat} {e : TypeId} {items items' : List (List AV)} {ns : List AV} {us : List Value} (g : Good P N F w0 gb0 H0 s a w gb) (ho : s.heap id = some (.row true e items)) (hg : gb id = some (gg, size)) (hr : RepL w (Wr F gb s.heap) gb ns us) (hfit : off + ns.length ≤ items.flatten.length)
    (h0' : ∀ it ∈ items', it.length = szOf P e) (hfl : items'.flatten = setR items.flatten off ns) : ∃ w', (storeCells ⟨gg, off, none⟩ us).run P w = .ok () w' ∧ Good P N F w0 gb0 H0 (s.chg id (some (.row true e items'))) a w' gb := by
  obtain ⟨h0, hbk⟩ := g.ok.rowAt ho (.inl ⟨true, rfl⟩)
  rcases hbk with ⟨hn, _⟩ | ⟨g', size', cur, fr, hg', hblk, hf, hcs, hle, hrl, _⟩
  · rw [hn] at hg; cases hg
  · rw [hg] at hg'
    injection hg' with hg'
    injection hg' with e1 e2
    subst e1 e2 hcs
    have hul := hr.len
    have hrun := run_storeC P gg off e us 0 cur w hblk hf (by omega) hr.one
    rw [Nat.add_zero] at hrun
    have hL := hrl.setR hr off
    have hwh : ∀ o, Wh gb s.heap gg o := fun o => ⟨id, cur.size, hg, by rw [ho]; trivial⟩
    obtain ⟨cur', hcur'⟩ : ∃ cur' : Array Value, cur' = (cur.toList.take off ++ us ++ cur.toList.drop (off + us.length)).toArray := ⟨_, rfl⟩
    rw [← hcur'] at hrun
    have hsz : cur'.size = cur.size := by
      rw [hcur', List.size_toArray]
      simp only [List.length_append, List.length_take, List.length_drop, Array.length_toList]
      omega
    have hch := chg_row (F := F) (id := id) hwh hblk hsz
    have hlen2 : items'.flatten.length = items.flatten.length := by rw [hfl, setR_len hfit]
    refine ⟨_, hrun, g.change (oo' := .row true e items') ho trivial trivial (fun k => Iff.rfl) hg hch (fun o u _ => .inl (hwh o)) ?_⟩
    refine ⟨h0', cur', fr, setRow_heap w gg cur _ e _ hblk, hf, hsz, by rw [hlen2]; exact hle, ?_⟩
    rw [hlen2, hfl]
    have hcl : cur'.toList.take items.flatten.length = (cur.toList.take items.flatten.length).take off ++ us ++ (cur.toList.take items.flatten.length).drop (off + us.length) := by
      rw [hcur']
      show List.take _ (cur.toList.take off ++ us ++ cur.toList.drop (off + us.length)) = _
      have hlo : (cur.toList.take off ++ us).length = off + us.length := by simp only [List.length_append, List.length_take, Array.length_toList]; omega
      rw [List.take_append, hlo, List.take_of_length_le (by omega), List.take_take, Nat.min_eq_left (by omega), List.drop_take]
    rw [hcl]
    exact hL.keep (chg_keep (oo' := .row true e items') ho (fun k => Iff.rfl) hch) (Ext.refl _)
/-- Cells of a variable are written. -/
theorem write_cells {id gg size off : Nat} {cs : List AV} {ns : List AV} {us : List Value} (g : Good P N F w0 gb0 H0 s a w gb) (ho : s.heap id = some (.cells cs)) (hg : gb id = some (gg, size)) (hr : RepL w (Wr F gb s.heap) gb ns us) (hfit : off + ns.length ≤ cs.length) :
    ∃ w', (storeCells ⟨gg, off, none⟩ us).run P w = .ok () w' ∧ Good P N F w0 gb0 H0 (s.chg id (some (.cells (setR cs off ns)))) a w' gb := by
  rcases g.ok.live id _ ho with ⟨g', size', hg', cur, e, fr, hblk, hf, hcs, hrl⟩ | ⟨_, m, e, he⟩
  · rw [hg] at hg'
    injection hg' with hg'
    injection hg' with e1 e2
    subst e1 e2 hcs
    have hul := hr.len
    have hcl : cs.length = cur.size := by rw [hrl.len]; simp
    have hrun := run_storeC P gg off e us 0 cur w hblk (hf.cold _) (by omega) hr.one
    rw [Nat.add_zero] at hrun
    have hL := hrl.setR hr off
    have hwh : ∀ o, Wh gb s.heap gg o := fun o => ⟨id, cur.size, hg, by rw [ho]; trivial⟩
    obtain ⟨cur', hcur'⟩ : ∃ cur' : Array Value, cur' = (cur.toList.take off ++ us ++ cur.toList.drop (off + us.length)).toArray := ⟨_, rfl⟩
    rw [← hcur'] at hrun
    have hsz : cur'.size = cur.size := by
      rw [hcur', List.size_toArray]
      simp only [List.length_append, List.length_take, List.length_drop, Array.length_toList]
      omega
    have hch := chg_row (F := F) (id := id) hwh hblk hsz
    refine ⟨_, hrun, g.change (oo' := .cells (setR cs off ns)) ho trivial trivial (fun k => Iff.rfl) hg hch (fun o u _ => .inl (hwh o)) ?_⟩
    refine ⟨cur', e, fr, setRow_heap w gg cur _ e _ hblk, hf, hsz, ?_⟩
    have e : cur'.toList = cur.toList.take off ++ us ++ cur.toList.drop (off + us.length) := by rw [hcur']
    rw [e]
    exact hL.keep (chg_keep (oo' := .cells (setR cs off ns)) ho (fun k => Iff.rfl) hch) (Ext.refl _)
  · cases he
/-- What copying does. -/
theorem run_copy {t ty rt : TypeId} {I : SlI} {A : Option Addr} {len c : Nat} {v : Value} {news : List (List AV)} {ns : List Value} {w' : World} (hT : T.Ok P) (hI : lk? T.sls t = some I) (hsrc : Src P I.size ty v news.length ns w) (hle : news.length ≤ len) (hst : (match A with | some ad => (storeCells ad ns).run P w | none => .ok () w) = .ok () w') :
    (Builtin.copy_ #[t, ty] rt #[.slice A len c, v]).run P w = .ok (.int .i64 (news.length : Int)) w' := by
  obtain ⟨hu', ⟨inf, hinf, hz, hsi, hby⟩, _, hsp, _⟩ := sls_ok hT hI
  have hmin : Nat.min news.length len = news.length := Nat.min_eq_left hle
  have hc := hsrc.cells
  have hsz : (sizeOf I.e).run P w = .ok I.size w := by simp [sizeOf, typeInfo, hinf, hsi]
  cases A with
  | none =>
    injection hst with _ hst
    subst hst
    simp [Builtin.copy_, run_underlying hu', hsrc.len, hmin, hsz, hc, goInt]
  | some ad =>
    simp [Builtin.copy_, run_underlying hu', hsrc.len, hmin, hsz, hc, hst, goInt]
theorem s_copy {c : Call} {x y : Operand} {t ty : TypeId} (hop : o.op = .call c) (hc : c.callee = .builtin .copy) (hx : c.args.toList = [x, y]) (ht : c.argTypes.toList = [t, ty]) (hT : T.Ok P) (h : fmore T A o s = some s') (g : Good P N F w0 gb0 H0 s a w gb) (hd : ∀ k, o.dst = some k → k < N) (hK : ∀ a' w', R P N F w0 gb0 H0 s' a' w' → K a' w') : o.wp P a w K Q := by
  unfold fmore at h
  simp only [hop, hc, hx, ht] at h
  obtain ⟨callee, args, argTypes⟩ := c
  obtain rfl : args = #[x, y] := Array.toList_inj.1 hx
  obtain rfl : argTypes = #[t, ty] := Array.toList_inj.1 ht
  simp only at hc
  subst hc
  split at h
  · rename_i I news hI hn
    split at h
    · rename_i hlen
      obtain ⟨ns, hsrc, hrep⟩ := anews_src hT hn hlen g
      have he := g.eval x
      have fin : ∀ (A : Option Addr) (len c : Nat) (w2 : World) (s2 : AS), a.eval x = .slice A len c → news.length ≤ len → (match A with | some ad => (storeCells ad ns).run P w | none => .ok () w) = .ok () w2 → Good P N F w0 gb0 H0 s2 a w2 gb → s' = s2.put o.dst (.lit (.int .i64 (news.length : Int))) → o.wp P a w K Q := by
        intro A len c w2 s2 hv hle hst hg hs'
        subst hs'
        have hr := run_copy (rt := o.type) (c := c) (A := A) (len := len) hT hI hsrc hle hst
        exact wp_val (v := .int .i64 (news.length : Int)) (w' := w2) (by unfold execOp; simp [hop, resolve, invoke, builtin, hv, hr]) (hK _ _ ⟨gb, hg.put hd (.lit _)⟩)
      have none' : news = [] → ns = [] := fun e => by
        have := hrep.len
        rw [e] at this
        exact List.eq_nil_of_length_eq_zero this.symm
      split at h
      · rename_i id sz ko len hxe
        rw [hxe] at he
        split at h
        · rename_i e items ho
          split at h
          · rename_i hb
            obtain ⟨⟨rfl, hle⟩, hb2, hsz⟩ := hb
            simp only [Option.some.injEq] at h
            generalize hv : a.eval x = v at he
            have nil : news = [] → s' = s.put o.dst (.lit (.int .i64 (news.length : Int))) := fun e0 => by
              rw [← h, e0, splice_nil, chg_self ho]
            cases he with
            | rw _ _ _ _ gg size c hg hs hcc hm =>
              obtain ⟨h0, _⟩ := g.ok.rowAt ho (.inl ⟨true, rfl⟩)
              by_cases hne : news = []
              · have hns := none' hne
                exact fin _ _ _ w s hv hle (by rw [hns]; rfl) g (nil hne)
              · have hP : szOf P e = I.size := by
                  cases items with
                  | nil =>
                    have : 0 < news.length := List.length_pos_iff.2 hne
                    simp only [List.length_nil] at hb2; omega
                  | cons i l => rw [← h0 i List.mem_cons_self]; exact hsz i List.mem_cons_self
                have hfl := flatten_len h0
                obtain ⟨w2, hst, hgd⟩ := write_row (off := ko * I.size) (items' := spliceL items ko news) g ho hg hrep (by
                  rw [hfl, flatten_len hlen, hP, ← Nat.add_mul]
                  exact Nat.mul_le_mul_right _ (by omega)) (fun it hit => (splice_mem hit).elim (h0 it) fun h => (hlen it h).trans hP.symm) (by rw [splice_flat h0 (fun it h => (hlen it h).trans hP.symm) (by omega), hP])
                exact fin _ _ _ w2 _ hv hle hst hgd h.symm
            | rwn => have : news = [] := List.eq_nil_of_length_eq_zero (by omega)
                     exact fin none 0 0 w s hv hle rfl g (nil this)
            | rwz _ _ _ off gg size hg =>
              have : news = [] := List.eq_nil_of_length_eq_zero (by omega)
              exact fin _ 0 0 w s hv hle (by rw [none' this]; rfl) g (nil this)
          · cases h
        · cases h
      · rename_i id off len hxe
        rw [hxe] at he
        split at h
        · rename_i cs ho
          split at h
          · rename_i hb
            obtain ⟨⟨hs1, hle⟩, hb2⟩ := hb
            simp only [Option.some.injEq] at h
            generalize hv : a.eval x = v at he
            have hfl := flatten_len hlen
            rw [hs1, Nat.mul_one] at hfl
            cases he with
            | ra _ _ _ c gg size hg hcc hm =>
              obtain ⟨w2, hst, hgd⟩ := write_cells (off := off) g ho hg hrep (by omega)
              exact fin _ _ _ w2 _ hv hle hst hgd h.symm
            | raz _ _ off2 gg size hg =>
              have hn0 : news = [] := List.eq_nil_of_length_eq_zero (by omega)
              refine fin _ 0 0 w s hv hle (by rw [none' hn0]; rfl) g ?_
              rw [← h, hn0, List.flatten_nil, setR_nil, chg_self ho]
          · cases h
        · cases h
      · cases h
    · cases h
  · cases h
theorem s_capp {c : Call} {x y : Operand} {t ty : TypeId} (hop : o.op = .call c) (hc : c.callee = .builtin .append) (hx : c.args.toList = [x, y]) (ht : c.argTypes.toList = [t, ty]) (hT : T.Ok P) (h : fmore T A o s = some s') (g : Good P N F w0 gb0 H0 s a w gb) (hd : ∀ k, o.dst = some k → k < N) (hK : ∀ a' w', R P N F w0 gb0 H0 s' a' w' → K a' w') : o.wp P a w K Q := by
  unfold fmore at h
  simp only [hop, hc, hx, ht] at h
  obtain ⟨callee, args, argTypes⟩ := c
  obtain rfl : args = #[x, y] := Array.toList_inj.1 hx
  obtain rfl : argTypes = #[t, ty] := Array.toList_inj.1 ht
  simp only at hc
  subst hc
  split at h
  · rename_i I news id sz len cp hI hn hxe
    split at h
    · rename_i e items ho
      split at h
      · rename_i hb
        obtain ⟨⟨⟨rfl, rfl⟩, h0c, hil⟩, hle, hlen⟩ := hb
        simp only [Option.some.injEq] at h
        obtain ⟨ns, hsrc, hrep⟩ := anews_src hT hn hlen g
        obtain ⟨hu', ⟨inf, hinf, hz, hsi, hby⟩, _, hsp, _⟩ := sls_ok hT hI
        have he := g.eval x
        rw [hxe] at he
        generalize hv : a.eval x = v at he
        cases he with
        | rc _ _ _ _ gg size hg hs hcc hm =>
          obtain ⟨h0, hbk⟩ := g.ok.rowAt ho (.inl ⟨true, rfl⟩)
          have hP := szOf_sl hT hI
          have hfl := flatten_len h0
          rw [hP, hil] at hfl
          have hfit : len * I.size + news.flatten.length ≤ items.flatten.length := by
            rw [hfl, flatten_len hlen, ← Nat.add_mul]
            exact Nat.mul_le_mul_right _ hle
          obtain ⟨w2, hst, hgd⟩ := write_row (off := len * I.size) (items' := spliceL items len news) g ho hg hrep hfit (fun it hit => (splice_mem hit).elim (h0 it) fun h => (hlen it h).trans hP.symm) (by rw [splice_flat h0 (fun it h => (hlen it h).trans hP.symm) (by omega), hP])
          rcases hbk with ⟨hn', _⟩ | ⟨g', size', cur, fr, hg', hblk, hf, hcs, hle2, hrl, _⟩
          · rw [hn'] at hg; cases hg
          · rw [hg] at hg'
            injection hg' with hg'
            injection hg' with e1 e2
            subst e1 e2 hcs
            have hnl : ns.length = news.flatten.length := hrep.len.symm
            have hr := run_append_room_src (P := P) w t ty o.type I.e inf hu' hinf gg 0 len cp (a.eval y) news.length ns (by rw [hsi]; exact hsrc) hle (fun j hj => by
                rw [Nat.zero_add, hsi]
                have : len * I.size + j < cur.size := by omega
                simp [World.cell?, hblk, this]) (fun j hj => by
                rw [Nat.zero_add, hsi]
                simp only [World.frozen?, hblk]
                rcases hf with h | h
                · simp; omega
                · simp; omega)
            rw [Nat.zero_add, hsi] at hr
            have hst' := run_storeCells_cells (P := P) gg (len * I.size) ns 0 w (fun j hj => by
                have : len * I.size + (0 + j) < cur.size := by omega
                simp only [World.cell?, hblk]
                simp; omega) (fun j hj => by
                simp only [World.frozen?, hblk]
                rcases hf with h | h
                · simp; omega
                · simp; omega) hsrc.one
            rw [Nat.add_zero] at hst'
            rw [hst'] at hst
            injection hst with _ hst
            rw [hst] at hr
            subst h
            refine wp_val (v := .slice (some ⟨gg, 0, none⟩) (len + news.length) cp) (w' := w2) (by unfold execOp; simp only [hop, resolve, invoke, builtin, Sem.run_bind, Sem.run_pure, Result.andThen_ok, List.map_toArray, List.map_cons, List.map_nil, hv, hr]) (hK _ _ ⟨gb, hgd.put hd ?_⟩)
            exact Rep.rc id I.size _ cp gg cur.size hg hs hle hm
        | rcz => omega
        | rcn => omega
      · cases h
    · cases h
  · cases h
theorem s_clear {c : Call} {x : Operand} {t : TypeId} (hop : o.op = .call c) (hc : c.callee = .builtin .clear) (hx : c.args.toList = [x]) (ht : c.argTypes.toList = [t]) (hT : T.Ok P) (h : fmore T A o s = some s') (g : Good P N F w0 gb0 H0 s a w gb) (hd : ∀ k, o.dst = some k → k < N) (hK : ∀ a' w', R P N F w0 gb0 H0 s' a' w' → K a' w') : o.wp P a w K Q := by
  unfold fmore at h
  simp only [hop, hc, hx, ht] at h
  obtain ⟨callee, args, argTypes⟩ := c
  obtain rfl : args = #[x] := Array.toList_inj.1 hx
  obtain rfl : argTypes = #[t] := Array.toList_inj.1 ht
  simp only at hc
  subst hc
  split at h
  · rename_i I id sz ko len hI hxe
    split at h
    · rename_i e items ho
      split at h
      · rename_i hb
        obtain ⟨⟨rfl, hb2, hsz⟩, h1⟩ := hb
        simp only [Option.some.injEq] at h
        have he := g.eval x
        rw [hxe] at he
        generalize hv : a.eval x = v at he
        obtain ⟨hu', ⟨inf, hinf, hz, hsi, hby⟩, hzs, hsp, _⟩ := sls_ok hT hI
        obtain ⟨h0, _⟩ := g.ok.rowAt ho (.inl ⟨true, rfl⟩)
        have fin : ∀ (w2 : World) (s2 : AS), (Builtin.clear_ #[t] o.type #[v]).run P w = .ok (.tuple #[]) w2 → Good P N F w0 gb0 H0 s2 a w2 gb → s' = s2.put o.dst (.tup []) → o.wp P a w K Q := by
          intro w2 s2 hr hg hs'
          subst hs'
          exact wp_val (v := .tuple #[]) (w' := w2) (by unfold execOp; simp [hop, resolve, invoke, builtin, hv, hr]) (hK _ _ ⟨gb, hg.put hd (Rep.tup [] [] rfl fun j c u h => by simp at h)⟩)
        have run0 : ∀ (A : Option Addr) (c : Nat), (Builtin.clear_ #[t] o.type #[.slice A 0 c]).run P w = .ok (.tuple #[]) w := fun A c => by
          cases A <;> simp [Builtin.clear_, run_underlying hu']
        have nil : len = 0 → s' = s.put o.dst (.tup []) := fun e0 => by
          rw [← h, e0, List.replicate_zero, splice_nil, chg_self ho]
        by_cases hl0 : len = 0
        · subst hl0
          have : ∃ A c, v = .slice A 0 c := by cases he <;> exact ⟨_, _, rfl⟩
          obtain ⟨A, c, rfl⟩ := this
          exact fin w s (run0 A c) g (nil rfl)
        · cases he with
          | rw _ _ _ _ gg size c hg hs hcc hm =>
            have hP : szOf P e = I.size := by
              cases items with
              | nil => simp only [List.length_nil] at hb2; omega
              | cons i l => rw [← h0 i List.mem_cons_self]; exact hsz i List.mem_cons_self
            have hfl := flatten_len h0
            have hzl : (zeroA I.zero).length = I.size := by unfold zeroA; rw [List.length_map, Array.length_toList]; exact hzs
            have hnl : ∀ it ∈ List.replicate len (zeroA I.zero), it.length = I.size := fun it hit => by rw [List.eq_of_mem_replicate hit]; exact hzl
            have hrep : RepL w (Wr F gb s.heap) gb (List.replicate len (zeroA I.zero)).flatten (Builtin.zeroCells I.zero.cells len).toList := by
              have hcells : (Builtin.zeroCells I.zero.cells len).toList = (List.replicate len I.zero.cells.toList).flatten := by
                have := zeros_mod (z := I.zero.cells) (by omega) len
                unfold Builtin.zeroCells
                exact this
              rw [hcells]
              clear hcells hv hb2 hxe hcc
              generalize len = m
              induction m with
              | zero => simpa using RepL.nil
              | succ m ih =>
                rw [List.replicate_succ, List.replicate_succ, List.flatten_cons, List.flatten_cons]
                exact (repL_lits h1).append ih
            obtain ⟨w2, hst, hgd⟩ := write_row (off := ko * I.size) (items' := spliceL items ko (List.replicate len (zeroA I.zero))) g ho hg hrep (by
              rw [hfl, flatten_len hnl, hP, ← Nat.add_mul, List.length_replicate]
              exact Nat.mul_le_mul_right _ (by omega)) (fun it hit => (splice_mem hit).elim (h0 it) fun h => (hnl it h).trans hP.symm) (by rw [splice_flat h0 (fun it h => (hnl it h).trans hP.symm) (by rw [List.length_replicate]; omega), hP])
            have hzv : (zeroValue I.e).run P w = .ok I.zero w := by simp [zeroValue, typeInfo, hinf, hz]
            refine fin w2 _ ?_ hgd h.symm
            obtain ⟨m, rfl⟩ : ∃ m, len = m + 1 := ⟨len - 1, by omega⟩
            simp [Builtin.clear_, run_underlying hu', hzv, hst]
          | rwn => exact absurd rfl hl0
          | rwz => exact absurd rfl hl0
      · cases h
    · cases h
  · cases h
theorem s_ment {t : TypeId} {m k : Operand} (hop : o.op = .mapEntry t m k) (hT : T.Ok P) (h : fmore T A o s = some s') (g : Good P N F w0 gb0 H0 s a w gb) (hd : ∀ k, o.dst = some k → k < N) (hK : ∀ a' w', R P N F w0 gb0 H0 s' a' w' → K a' w') : o.wp P a w K Q := by
  unfold fmore at h
  simp only [hop] at h
  split at h
  · rename_i d I id hod hI hm
    cases hkk : keyKindH T s.heap I.key (s.eval k) with
    | false => rw [hkk] at h; cases h
    | true =>
      rw [hkk] at h
      simp only [cond_true] at h
      split at h
      · rename_i es clock ho
        have he := g.eval m
        rw [hm] at he
        obtain ⟨gg, size, ents, hg, hv, hb, hl, hrep⟩ := rep_map g.ok he ho
        obtain ⟨hu, hz⟩ := hT.maps _ (lk?_mem hI)
        have hik := isKeyH_of g.ok hT hkk (g.eval k)
        simp only [kfind_g] at h
        have fin : ∀ (ents' : Array MapEntry) (es' : List ME) (clock' : Nat) (xv : AV) (uv : Value) (b : Nat), (Instr.mapEntry t (.map (some gg)) (a.eval k)).run P w = .ok (.tuple #[uv, goInt b]) { w with heap := w.heap.setIfInBounds gg (.map ents' clock') } → es'.length = ents'.size → (∀ (j : Nat) (e : ME) (x : MapEntry), es'[j]? = some e → ents'[j]? = some x → RepE w (Wr F gb s.heap) gb e x) → Rep w (Wr F gb s.heap) gb xv uv →
            s' = (s.chg id (some (.map es' clock'))).set d (.tup [xv, .lit (.int .i64 (b : Int))]) → o.wp P a w K Q := by
          intro ents' es' clock' xv uv b hrun hl' hrep' hxv hs'
          subst hs'
          obtain ⟨hch, hblk⟩ := set_chg (F := F) (gb := gb) (H := s.heap) (ob := .map ents' clock') hb
          refine wp_val (v := .tuple #[uv, goInt b]) (w' := { w with heap := w.heap.setIfInBounds gg (.map ents' clock') }) (by unfold execOp; simp only [hop, hv]; rw [Sem.run_bind, hrun]; rfl) (hK _ _ ⟨gb, ?_⟩)
          have hkp := chg_keep (oo' := .map es' clock') ho (fun k => Iff.rfl) hch
          rw [hod]
          refine (g.change (oo' := .map es' clock') ho trivial trivial (fun k => Iff.rfl) hg hch (fun o u hc => by simp [World.cell?, hb] at hc) ?_).put (d := some d) (fun k hk => hd k (by rw [hod]; exact hk)) (Rep.tup [xv, .lit (.int .i64 (b : Int))] [uv, goInt b] rfl fun j c y hc hy => ?_)
          · exact ⟨ents', hblk, hl', fun j e x hj hx => ⟨(hrep' j e x hj hx).born, (hrep' j e x hj hx).key.keep hkp (Ext.refl _), (hrep' j e x hj hx).val.keep hkp (Ext.refl _)⟩⟩
          · match j with
            | 0 => simp only [List.getElem?_cons_zero, Option.some.injEq] at hc hy; subst hc hy; exact hxv.keep hkp (Ext.refl _)
            | 1 => simp only [List.getElem?_cons_succ, List.getElem?_cons_zero, Option.some.injEq] at hc hy; subst hc hy; exact .lit _
            | j + 2 => simp at hc
        split at h
        · rename_i i v hmf
          split at h
          · rename_i e hei
            simp only [Option.some.injEq] at h
            rcases hik.find es ents.toList _ (by simpa using hl) (fun j e x he hx => hrep j e x he (by simpa using hx)) hmf with ⟨h1, _⟩ | ⟨j', v', x', e', h1, h2, h3, h4, h5, h6⟩
            · cases h1
            · injection h1 with h1
              injection h1 with e1 e2
              subst e1
              rw [hei] at h2
              injection h2 with h2
              subst h2
              have h3' : ents[i]? = some x' := by simpa using h3
              have hkeq : x'.key = a.eval k := hik.same _ _ h5 (hrep i e x' hei h3').key
              have hxk : (Instr.keyThatStays x'.key (a.eval k)).run P w = .ok (a.eval k) w := by
                rw [hkeq]; exact hik.stays
              refine fin (ents.modify i fun e => { e with key := a.eval k }) (es.set i ⟨s.eval k, e.val, e.born⟩) clock e.val x'.val e.born ?_ (by simp [hl]) (fun j e2 x2 hj hx2 => ?_) (hrep i e x' hei h3').val h.symm
              · simp [Instr.mapEntry, run_underlying hu, Go.MapKept.run_getObj_map hb, hik.check, h6, h3', hxk, Go.MapKept.run_setObj_map _ hb, (hrep i e x' hei h3').born]
              · rw [Array.getElem?_modify] at hx2
                by_cases hji : i = j
                · subst hji
                  rw [if_pos rfl, h3'] at hx2
                  simp only [Option.map_some, Option.some.injEq] at hx2
                  have hlt := (List.getElem?_eq_some_iff.1 hei).1
                  rw [List.getElem?_set_self hlt] at hj
                  injection hj with hj
                  subst hj hx2
                  exact ⟨(hrep i e x' hei h3').born, g.eval k, (hrep i e x' hei h3').val⟩
                · rw [if_neg hji] at hx2
                  rw [List.getElem?_set_ne hji] at hj
                  exact hrep j e2 x2 hj hx2
          · cases h
        · rename_i hmf
          simp only [Option.some.injEq] at h
          rcases hik.find es ents.toList _ (by simpa using hl) (fun j e x he hx => hrep j e x he (by simpa using hx)) hmf with ⟨_, h2⟩ | ⟨j', v', x', e', h1, _⟩
          · refine fin (ents.push { key := a.eval k, val := I.zero, born := clock }) (es ++ [⟨s.eval k, .lit I.zero, clock⟩]) (clock + 1) (.lit I.zero) I.zero clock ?_ (by simp [hl]) (fun j e2 x2 hj hx2 => ?_) (.lit _) h.symm
            · simp [Instr.mapEntry, run_underlying hu, Go.MapKept.run_getObj_map hb, hik.check, h2, Go.MapKept.run_setObj_map _ hb, run_zero_some hz]
            · rw [Array.getElem?_push] at hx2
              by_cases hj2 : j = ents.size
              · rw [if_pos hj2] at hx2
                injection hx2 with hx2
                rw [List.getElem?_append_right (by omega), hj2, hl, Nat.sub_self] at hj
                simp only [List.getElem?_cons_zero, Option.some.injEq] at hj
                subst hj hx2
                exact ⟨rfl, g.eval k, .lit _⟩
              · rw [if_neg hj2] at hx2
                have hlt := (Array.getElem?_eq_some_iff.1 hx2).1
                rw [List.getElem?_append_left (by omega)] at hj
                exact hrep j e2 x2 hj hx2
          · cases h1
        · cases h
      · cases h
  · cases h
theorem s_estore {t : TypeId} {m st x : Operand} (hop : o.op = .entryStore t m st x) (hT : T.Ok P) (h : fmore T A o s = some s') (g : Good P N F w0 gb0 H0 s a w gb) (hd : ∀ k, o.dst = some k → k < N) (hK : ∀ a' w', R P N F w0 gb0 H0 s' a' w' → K a' w') : o.wp P a w K Q := by
  unfold fmore at h
  simp only [hop] at h
  split at h
  · rename_i id k b hm hst
    have hvs := rep_int (g.eval st) hst
    split at h
    · rename_i es clock ho
      have he := g.eval m
      rw [hm] at he
      obtain ⟨gg, size, ents, hg, hv, hb, hl, hrep⟩ := rep_map g.ok he ho
      split at h
      · rename_i i hfi
        split at h
        · rename_i e hei
          simp only [Option.some.injEq] at h
          have hfe : ents.findIdx? (fun e => (e.born : Int) == b) = some i := by
            rw [Array.findIdx?_eq_some_iff_getElem]
            rw [List.findIdx?_eq_some_iff_getElem] at hfi
            obtain ⟨hlt, h1, h2⟩ := hfi
            have born : ∀ j (hj : j < es.length) (hj' : j < ents.size), ents[j].born = es[j].born := fun j hj hj' => (hrep j _ _ (List.getElem?_eq_getElem hj) (Array.getElem?_eq_getElem hj')).born
            refine ⟨by omega, by rw [born i hlt (by omega)]; exact h1, fun j hji => ?_⟩
            rw [born j (by omega) (by omega)]
            exact h2 j hji
          have h3' : ∃ x', ents[i]? = some x' := by
            have := (List.getElem?_eq_some_iff.1 hei).1
            exact ⟨_, Array.getElem?_eq_getElem (by omega)⟩
          obtain ⟨x', h3'⟩ := h3'
          have hrun : (Instr.entryStore t (.map (some gg)) (.int k b) (a.eval x)).run P w = .ok () { w with heap := w.heap.setIfInBounds gg (.map (ents.modify i fun e => { e with val := a.eval x }) clock) } := by
            simp [Instr.entryStore, Go.MapKept.run_getObj_map hb, asInt, asIntOf, hfe, Go.MapKept.run_setObj_map _ hb]
          obtain ⟨hch, hblk⟩ := set_chg (F := F) (gb := gb) (H := s.heap) (ob := .map (ents.modify i fun e => { e with val := a.eval x }) clock) hb
          have hkp := chg_keep (oo' := .map (es.set i ⟨e.key, s.eval x, e.born⟩) clock) ho (fun k => Iff.rfl) hch
          refine wp_skp (w' := { w with heap := w.heap.setIfInBounds gg (.map (ents.modify i fun e => { e with val := a.eval x }) clock) }) (by unfold execOp; simp only [hop, hv, hvs]; rw [Sem.run_bind, hrun]; rfl) (hK _ _ ⟨gb, ?_⟩)
          subst h
          refine (g.change (oo' := .map (es.set i ⟨e.key, s.eval x, e.born⟩) clock) ho trivial trivial (fun k => Iff.rfl) hg hch (fun o u hc => by simp [World.cell?, hb] at hc) ?_).put hd (.dead _)
          refine ⟨_, hblk, by simp [hl], fun j e2 x2 hj hx2 => ?_⟩
          have : RepE w (Wr F gb s.heap) gb e2 x2 := by
            rw [Array.getElem?_modify] at hx2
            by_cases hji : i = j
            · subst hji
              rw [if_pos rfl, h3'] at hx2
              simp only [Option.map_some, Option.some.injEq] at hx2
              have hlt := (List.getElem?_eq_some_iff.1 hei).1
              rw [List.getElem?_set_self hlt] at hj
              injection hj with hj
              subst hj hx2
              exact ⟨(hrep i e x' hei h3').born, (hrep i e x' hei h3').key, g.eval x⟩
            · rw [if_neg hji] at hx2
              rw [List.getElem?_set_ne hji] at hj
              exact hrep j e2 x2 hj hx2
          exact ⟨this.born, this.key.keep hkp (Ext.refl _), this.val.keep hkp (Ext.refl _)⟩
        · cases h
      · cases h
    · cases h
  · cases h
theorem fmore_sound (hT : T.Ok P) (h : fmore T A o s = some s') (g : Good P N F w0 gb0 H0 s a w gb) (hd : ∀ k, o.dst = some k → k < N) (hK : ∀ a' w', R P N F w0 gb0 H0 s' a' w' → K a' w') : o.wp P a w K Q := by
  cases hop : o.op with
  | mapEntry t m k => exact s_ment hop hT h g hd hK
  | entryStore t m st x => exact s_estore hop hT h g hd hK
  | call c =>
    have h' := h
    unfold fmore at h'
    simp only [hop] at h'
    split at h'
    · rename_i x y t ty hc hx ht
      exact s_copy hop hc hx ht hT h g hd hK
    · rename_i x y t ty hc hx ht
      exact s_capp hop hc hx ht hT h g hd hK
    · rename_i x t hc hx ht
      exact s_clear hop hc hx ht hT h g hd hK
    · cases h'
  | _ => unfold fmore at h; simp only [hop] at h; cases h
end
end Go.Proofs.Ytheanmfdfoefoaa.Hv
set_option linter.unusedVariables false
set_option linter.unusedSimpArgs false
namespace Go.Proofs.Ytheanmfdfoefoaa.Hv
open Go Go.RowKit

def okF (P : Program) (f : FuncId) : Bool := match P.funcs[f]? with | some fn => !(fn.name == "runtime.NumGoroutine") && fn.body.isSome | none => false
/-- A function's answer, whatever the world, whatever is shut: it changes nothing that was there. -/
def ACalls (P : Program) (f : FuncId) (as : List AV) (res : AV) : Prop :=
  okF P f = true ∧ ∀ (w : World) (W : Nat → Nat → Prop) (gb : Gb) (vs : List Value), (∀ b o, W b o → b < w.heap.size) → as.length = vs.length → (∀ (j : Nat) (x : AV) (v : Value), as[j]? = some x → vs[j]? = some v → Rep w W gb x v) →
    Calls P f vs.toArray w fun e w' => ∃ v, e = .returned v ∧ Rep w' W gb res v ∧ Below w.heap.size w w'
/-- What a call makes of a heap. -/
structure Done (P : Program) (F : Nat → Nat → Prop) (gb : Gb) (H : Hp) (w : World) (Post : AV → Hp → Nat → Prop) (e : Ending) (w' : World) (v : Value) (r : AV) (H' : Hp) (n' : Nat) (gb' : Gb) : Prop where
  ret : e = .returned v
  post : Post r H' n'
  kept : Kept (Xh gb H) (Wh gb H) w w'
  ext : Ext gb gb'
  ok : HeapOk P w' F gb' H' n'
  wr : ∀ b o, b < w.heap.size → Wh gb' H' b o → Wh gb H b o
  x : ∀ b, b < w.heap.size → Xh gb' H' b → Xh gb H b
  rep : Rep w' (Wr F gb' H') gb' r v
/-- A function over a heap: what it answers and makes of the heap. -/
def HCalls (P : Program) (f : FuncId) (as : List AV) (H : Hp) (n : Nat) (Post : AV → Hp → Nat → Prop) : Prop :=
  okF P f = true ∧ ∀ (w : World) (F : Nat → Nat → Prop) (gb : Gb) (vs : List Value), HeapOk P w F gb H n → as.length = vs.length → (∀ (j : Nat) (x : AV) (v : Value), as[j]? = some x → vs[j]? = some v → Rep w (Wr F gb H) gb x v) →
    Calls P f vs.toArray w fun e w' => ∃ v r H' n' gb', Done P F gb H w Post e w' v r H' n' gb'
theorem HCalls.mono {P : Program} {f : FuncId} {as : List AV} {H : Hp} {n : Nat} {Post Post' : AV → Hp → Nat → Prop} (h : HCalls P f as H n Post) (hp : ∀ r H' n', Post r H' n' → Post' r H' n') : HCalls P f as H n Post' :=
  ⟨h.1, fun w F gb vs hok hl hr => (h.2 w F gb vs hok hl hr).mono fun _ _ ⟨v, r, H', n', gb', hd⟩ => ⟨v, r, H', n', gb', { hd with post := hp _ _ _ hd.post }⟩⟩

/-- What stands where an operation was left out. -/
def AV.skip : AV := .lit (.tuple #[])
def AV.said? (x : AV) (want : Bool) : Option Bool := match x with
  | .lit (.bool b) => some (b == want)
  | .lit (.tuple _) => some false
  | _ => none
def gsem (all : List Oper) (s : AS) (o : Oper) : Option Bool :=
  match o.guard with
  | none => some true
  | some (j, want) => ((all[j]?).bind (·.dst)).bind fun d => (s.get d).said? want
def okD (N : Nat) (o : Oper) : Bool := match o.dst with | none => true | some k => Nat.blt k N
def callee? (s : AS) (c : Call) : Option (FuncId × List AV) := match c.callee with
  | .value x => match s.eval x with
    | .fn f caps => some (f, c.args.toList.map s.eval ++ caps)
    | _ => none
  | _ => none
/-- A cut of a row that may be written in shortens it. -/
def acutM (A : Vis) (T : Tbl) (o : Oper) (s : AS) : Option AS :=
  match o.op, o.dst with
  | .slice t x none (some hi) _, some d => bif A.cut.elem d then (match lk? T.sls t, s.eval x, (s.eval hi).int? with
    | some I, .rw id sz 0 len, some (_, h) => match s.heap id with
      | some (.row true e items) => if (0 ≤ h ∧ h ≤ len ∧ len ≤ items.length) ∧ sz = I.size then some ((s.chg id (some (.row true e (items.take h.toNat)))).set d (.rw id sz 0 h.toNat)) else none
      | _ => none
    | _, _, _ => none) else none
  | _, _ => none
/-- The state behind an operation, where it is a function of the state ahead. -/
def fop (T : Tbl) (A : Vis) (o : Oper) (s : AS) : Option AS :=
  match o.op with
  | .assign x => match o.dst, (bif isNilO x then lk? T.sls o.type else none) with
    | some d, some I => some ((s.fresh (.row (A.muts.elem d) I.e [])).set d (.rw s.next I.size 0 0))
    | d, _ => some (s.put d (s.eval x))
  | op => match fval T s.heap op s.eval with
    | some v => match acutM A T o s with
      | some s' => some s'
      | none => some (s.put o.dst v)
    | none => match feff T A o s with
      | some s' => some s'
      | none => match op with
        | .call c => match fapp T A c o.dst s with
          | some s' => some s'
          | none => fmore T A o s
        | _ => fmore T A o s
/-- The entries that a walk through a map has still ahead. -/
def leftE (es : List ME) (seen : List Nat) : List ME := es.filter fun e => !seen.contains e.born
section
variable (P : Program) (T : Tbl) (A : Vis)
def rk (all : List Oper) : List Oper → AS → (AS → Prop) → Prop
  | [], s, K => K s
  | o :: r, s, K => match gsem all s o with
    | some true => match fop T A o s with
      | some s' => rk all r s' K
      | none => match o.op with
        | .call c => match callee? s c with
          | some (f, as) => (∃ res, ACalls P f (as.map (AV.view s.heap)) res ∧ rk all r (s.put o.dst res) K) ∨ ∃ Post, HCalls P f as s.heap s.next Post ∧ ∀ res H' n', Post res H' n' → rk all r ((⟨s.env, H', n'⟩ : AS).put o.dst res) K
          | none => False
        | .next x false => match s.eval x with
          | .ptr id 0 => match s.heap id with
            | some (.iter (some m) since seen last) => match s.heap m with
              | some (.map es clock) => (∀ e ∈ es, e.born < since) ∧ since ≤ last ∧ (leftE es seen = [] → rk all r (s.put o.dst (.tup [.lit (.bool false)])) K) ∧ ∀ e ∈ leftE es seen, rk all r ((s.chg id (some (.iter (some m) since (seen ++ [e.born]) clock))).put o.dst (.tup [.lit (.bool true), e.key, e.val])) K
              | _ => False
            | _ => False
          | _ => False
        | _ => False
    | some false => rk all r (s.put o.dst .skip) K
    | none => False
end
section
variable {P : Program} {T : Tbl} {A : Vis} {N : Nat} {F : Nat → Nat → Prop} {w0 w w' : World} {gb0 gb gb' : Gb} {H0 H H' : Hp} {s s' : AS} {a : Act} {n n' : Nat} {W : Nat → Nat → Prop} {o : Oper} {K : Act → World → Prop} {Q : Exit → Act → World → Prop}
theorem s_cut {hd : ∀ k, o.dst = some k → k < N} (hT : T.Ok P) (h : acutM A T o s = some s') {v : AV} (hv : fval T s.heap o.op s.eval = some v) (g : Good P N F w0 gb0 H0 s a w gb) (hK : ∀ a' w', R P N F w0 gb0 H0 s' a' w' → K a' w') : o.wp P a w K Q := by
  obtain ⟨u, hrun, hrep⟩ := fval_sound hT hv g
  unfold acutM at h
  split at h
  · rename_i t x hi mx d hop hod
    cases hc : A.cut.elem d with
    | false => rw [hc] at h; cases h
    | true =>
      rw [hc] at h
      simp only [cond_true] at h
      split at h
      · rename_i I id sz len k hh hI hx hhi
        split at h
        · rename_i e items ho
          split at h
          · rename_i hb
            obtain ⟨⟨b1, b2, b3⟩, hsz⟩ := hb
            simp only [Option.some.injEq] at h
            subst h
            have hv' : v = .rw id sz 0 hh.toNat := by
              rw [hop] at hv
              unfold fval at hv
              cases mx with
              | some m => cases hv
              | none =>
                have hnum : (s.eval hi).num? = some hh := by
                  unfold AV.int? at hhi
                  split at hhi
                  · rename_i q; simp only [Option.some.injEq, Prod.mk.injEq] at hhi; unfold AV.num?; rw [q, hhi.2]
                  · cases hhi
                simp only [acut, hx, hI, Option.map_none, Option.map_some, onum, Option.bind_some, hnum, acutR] at hv
                rw [if_pos ⟨⟨Int.le_refl _, b1, b2⟩, hsz⟩] at hv
                simp only [Option.some.injEq] at hv
                rw [← hv]
                simp
            subst hv'
            refine wp_val hrun (hK _ _ ⟨gb, ?_⟩)
            have hlive : ∃ gg size, gb id = some (gg, size) ∧ ObjRep P w (Wr F gb s.heap) gb gg size (.row true e items) ∨ (gb id = none ∧ items = []) := by
              rcases g.ok.live id _ ho with ⟨gg, size, hg, hr⟩ | ⟨hg, m, e', he⟩
              · exact ⟨gg, size, .inl ⟨hg, hr⟩⟩
              · injection he with _ _ he; exact ⟨0, 0, .inr ⟨hg, he⟩⟩
            obtain ⟨gg, size, hl⟩ := hlive
            rcases hl with ⟨hg, h0, cur, fr, h1, hf, h2, h3, h4⟩ | ⟨hg, hnil⟩
            · have htk : items.take hh.toNat ++ items.drop hh.toNat = items := List.take_append_drop _ _
              have hfl : (items.take hh.toNat).flatten.length ≤ items.flatten.length := by
                have := congrArg (fun l => (List.flatten l).length) htk
                simp only [List.flatten_append, List.length_append] at this
                omega
              have := (g.change (w' := w) (oo' := .row true e (items.take hh.toNat)) ho trivial trivial (fun k => Iff.rfl) hg (Chg.self gg) (fun o u hc => .inr hc) ⟨fun it hit => h0 it (List.mem_of_mem_take hit), cur, fr, h1, hf, h2, Nat.le_trans hfl h3, ?_⟩).put (d := some d) (x := .rw id sz 0 hh.toNat) (v := u) (fun k hk => hd k (by rw [hod]; exact hk)) ?_
              · rw [hod]; exact this
              · have e1 : cur.toList.take (items.take hh.toNat).flatten.length = (cur.toList.take items.flatten.length).take (items.take hh.toNat).flatten.length := by
                  rw [List.take_take, Nat.min_eq_left hfl]
                have e2 : (items.take hh.toNat).flatten = items.flatten.take (items.take hh.toNat).flatten.length := by
                  have := congrArg List.flatten htk
                  rw [List.flatten_append] at this
                  rw [← this, List.take_left]
                rw [e1]
                have := h4.take (items.take hh.toNat).flatten.length
                rw [← e2] at this
                exact this.keep (chg_keep (w' := w) (oo := .row true e items) (oo' := .row true e (items.take hh.toNat)) ho (fun k => Iff.rfl) (Chg.self gg)) (Ext.refl _)
              · exact hrep.keep (chg_keep (w' := w) (gg := gg) (oo := .row true e items) (oo' := .row true e (items.take hh.toNat)) ho (fun k => Iff.rfl) (Chg.self gg)) (Ext.refl _)
            · subst hnil
              have hid : upd s.heap id (some (.row true e (([] : List (List AV)).take hh.toNat))) = s.heap := by
                funext j
                by_cases hj : j = id
                · subst hj; rw [upd_same, ho]; simp
                · rw [upd_other (fun e => hj e.symm)]
              have : (s.chg id (some (.row true e (([] : List (List AV)).take hh.toNat)))) = s := by
                unfold AS.chg; rw [hid]
              rw [this, hod]
              exact g.put (d := some d) (fun k hk => hd k (by rw [hod]; exact hk)) hrep
          · cases h
        · cases h
      · cases h
  · cases h
theorem fop_sound (hT : T.Ok P) (h : fop T A o s = some s') (g : Good P N F w0 gb0 H0 s a w gb) (hd : ∀ k, o.dst = some k → k < N) (hK : ∀ a' w', R P N F w0 gb0 H0 s' a' w' → K a' w') : o.wp P a w K Q := by
  unfold fop at h
  split at h
  · rename_i x hop
    have plain : s' = s.put o.dst (s.eval x) → o.wp P a w K Q := fun hs => by
      subst hs
      exact wp_val (v := a.eval x) (w' := w) (by unfold execOp; simp only [hop]; rfl) (hK _ _ ⟨gb, g.put hd (g.eval x)⟩)
    split at h
    · rename_i d I hod hi
      simp only [Option.some.injEq] at h
      subst h
      have hx : isNilO x = true := by
        cases hx : isNilO x with
        | true => rfl
        | false => rw [hx] at hi; cases hi
      have hv : a.eval x = .slice none 0 0 := by
        unfold isNilO at hx
        split at hx
        · rename_i v
          unfold isNilV at hx
          split at hx
          · rfl
          · cases hx
        · cases hx
      refine wp_val (v := .slice none 0 0) (w' := w) (by unfold execOp; simp only [hop, hv]; rfl) (hK _ _ ⟨gb, ?_⟩)
      rw [hod]
      exact g.freshNil.put (d := some d) (fun k hk => hd k (by rw [hod]; exact hk)) (Rep.rwn _ _)
    · simp only [Option.some.injEq] at h
      exact plain h.symm
  · split at h
    · rename_i v hv
      split at h
      · rename_i s2 hs2
        simp only [Option.some.injEq] at h
        subst h
        exact s_cut (hd := hd) hT hs2 hv g hK
      · simp only [Option.some.injEq] at h
        subst h
        obtain ⟨u, hrun, hrep⟩ := fval_sound hT hv g
        exact wp_val hrun (hK _ _ ⟨gb, g.put hd hrep⟩)
    · split at h
      · rename_i s2 hs2
        simp only [Option.some.injEq] at h
        subst h
        exact feff_sound hT hs2 g hd hK
      · split at h
        · rename_i c hop
          split at h
          · rename_i s3 hs3
            simp only [Option.some.injEq] at h
            subst h
            exact s_app hop hT hs3 g hd hK
          · exact fmore_sound hT h g hd hK
        · exact fmore_sound hT h g hd hK
theorem run_call {c : Call} {f : FuncId} {as : List AV} (hop : o.op = .call c) (hc : callee? s c = some (f, as)) (hok : okF P f = true) (g : Good P N F w0 gb0 H0 s a w gb) : ∃ vs : List Value, as.length = vs.length ∧ (∀ (j : Nat) (x : AV) (v : Value), as[j]? = some x → vs[j]? = some v → Rep w (Wr F gb s.heap) gb x v) ∧ (execOp a.eval o).run P w = .ok (.enter f vs.toArray) w := by
  obtain ⟨callee, args, argTypes⟩ := c
  unfold callee? at hc
  simp only at hc
  split at hc
  · rename_i x
    split at hc
    · rename_i f' caps hx
      simp only [Option.some.injEq, Prod.mk.injEq] at hc
      obtain ⟨rfl, rfl⟩ := hc
      have hr := g.eval x
      rw [hx] at hr
      generalize hv : a.eval x = v at hr
      cases hr with
      | fn _ _ vs hl hrep =>
        refine ⟨args.toList.map a.eval ++ vs, by simp [hl], fun j y u hy hu => ?_, ?_⟩
        · by_cases hj : j < args.toList.length
          · rw [List.getElem?_append_left (by simpa using hj)] at hy hu
            rw [List.getElem?_map, Option.map_eq_some_iff] at hy hu
            obtain ⟨z, hz, rfl⟩ := hy
            obtain ⟨z', hz', rfl⟩ := hu
            rw [hz] at hz'
            injection hz' with hz'
            subst hz'
            exact g.eval z
          · rw [List.getElem?_append_right (by simp at hj ⊢; omega)] at hy hu
            simp only [List.length_map] at hy hu
            exact hrep _ y u hy hu
        · unfold okF at hok
          split at hok
          · rename_i fn hfn
            simp only [Bool.and_eq_true, Bool.not_eq_true', Option.isSome_iff_exists] at hok
            obtain ⟨h1, b, hb⟩ := hok
            unfold execOp
            simp only [hop, resolve, hv, Deferred.ofValue, Sem.run_bind, Sem.run_pure, Result.andThen_ok, invoke, callFunc, run_program, hfn]
            have : (#[] ++ Array.map a.eval args ++ vs.toArray : Array Value) = (args.toList.map a.eval ++ vs).toArray := by
              apply Array.toList_inj.1; simp
            simp [h1, hb, this]
          · cases hok
    · cases hc
  · cases hc
theorem Good.after {Post : AV → Hp → Nat → Prop} {e : Ending} {v : Value} {r : AV} {d : Option Nat} (g : Good P N F w0 gb0 H0 s a w gb) (h : Done P F gb s.heap w Post e w' v r H' n' gb') (hd : ∀ k, d = some k → k < N) : Good P N F w0 gb0 H0 ((⟨s.env, H', n'⟩ : AS).put d r) (a.put d v) w' gb' := by
  refine Good.put ⟨g.kept.trans h.kept (fun k hk hx => g.x0 k hk hx) (fun b o hb hw => g.wr0 b o hb hw), g.ext.trans h.ext, h.ok, fun b o hlt hw => g.wr0 b o hlt (h.wr b o (Nat.lt_of_lt_of_le hlt g.kept.size) hw), fun b hlt hx => g.x0 b hlt (h.x b (Nat.lt_of_lt_of_le hlt g.kept.size) hx), g.size, g.defers, fun t => ?_⟩ hd h.rep
  refine (g.slots t).keep (fun b o u hn hc => ⟨h.kept.cell b o u (fun hw => hn (.inr hw)) hc, ?_⟩) h.ext
  rintro (hf | hw)
  · exact hn (.inl hf)
  · exact hn (.inr (h.wr b o (cell_lt hc) hw))
theorem s_call {c : Call} {f : FuncId} {as : List AV} {res : AV} (hop : o.op = .call c) (hc : callee? s c = some (f, as)) (hA : ACalls P f (as.map (AV.view s.heap)) res) (g : Good P N F w0 gb0 H0 s a w gb) (hd : ∀ k, o.dst = some k → k < N) (hK : ∀ a' w', R P N F w0 gb0 H0 (s.put o.dst res) a' w' → K a' w') : o.wp P a w K Q := by
  obtain ⟨vs, hl, hrep, hrun⟩ := run_call hop hc hA.1 g
  have hcall := hA.2 w (Wr F gb s.heap) gb vs (fun b o hw => by
    rcases hw with h | ⟨id, t, hg, _⟩
    · exact g.ok.FB b o h
    · exact (g.ok.lt id b t hg).2) (by simpa using hl) (fun j x v hx hv => by
      rw [List.getElem?_map, Option.map_eq_some_iff] at hx
      obtain ⟨y, hy, rfl⟩ := hx
      exact view_rep g.ok (hrep j y v hy hv))
  unfold Oper.wp
  rw [hrun, Oper.upon_enter]
  refine hcall.mono fun e w' ⟨v, he, hr, hb⟩ => ?_
  subst he
  exact hK _ _ ⟨gb, (g.world hb).put hd hr⟩
theorem s_hcall {c : Call} {f : FuncId} {as : List AV} {Post : AV → Hp → Nat → Prop} (hop : o.op = .call c) (hc : callee? s c = some (f, as)) (hA : HCalls P f as s.heap s.next Post) (g : Good P N F w0 gb0 H0 s a w gb) (hd : ∀ k, o.dst = some k → k < N) (hK : ∀ res H' n', Post res H' n' → ∀ a' w', R P N F w0 gb0 H0 ((⟨s.env, H', n'⟩ : AS).put o.dst res) a' w' → K a' w') : o.wp P a w K Q := by
  obtain ⟨vs, hl, hrep, hrun⟩ := run_call hop hc hA.1 g
  have hcall := hA.2 w F gb vs g.ok hl hrep
  unfold Oper.wp
  rw [hrun, Oper.upon_enter]
  refine hcall.mono fun e w' ⟨v, r, H', n', gb', hdn⟩ => ?_
  have he := hdn.ret
  subst he
  exact hK r H' n' hdn.post _ _ ⟨gb', g.after hdn hd⟩
theorem s_next {x : Operand} {id m : Nat} {since last : Nat} {seen : List Nat} {es : List ME} {clock : Nat} (hop : o.op = .next x false) (hx : s.eval x = .ptr id 0) (hi : s.heap id = some (.iter (some m) since seen last)) (hm : s.heap m = some (.map es clock)) (hold : ∀ e ∈ es, e.born < since) (hsl : since ≤ last)
    (g : Good P N F w0 gb0 H0 s a w gb) (hd : ∀ k, o.dst = some k → k < N) (h1 : leftE es seen = [] → ∀ a' w', R P N F w0 gb0 H0 (s.put o.dst (.tup [.lit (.bool false)])) a' w' → K a' w')
    (h2 : ∀ e ∈ leftE es seen, ∀ a' w', R P N F w0 gb0 H0 ((s.chg id (some (.iter (some m) since (seen ++ [e.born]) clock))).put o.dst (.tup [.lit (.bool true), e.key, e.val])) a' w' → K a' w') : o.wp P a w K Q := by
  have he := g.eval x
  rw [hx] at he
  generalize hv : a.eval x = v at he
  cases he with
  | ptr _ _ gi size hg =>
    rcases g.ok.live id _ hi with ⟨g', size', hg', mb, q1, q2⟩ | ⟨_, m', e', he'⟩
    · rw [hg] at hg'
      injection hg' with hg'
      injection hg' with e1 e2
      subst e1 e2
      cases mb with
      | none => exact q1.elim
      | some gm =>
        obtain ⟨sm, hsm⟩ := q1
        obtain ⟨gm', size', ents, hg2, hv2, hb2, hl2, hrep⟩ := rep_map g.ok (Rep.mp m gm sm hsm) hm
        rw [hsm] at hg2
        injection hg2 with hg2
        injection hg2 with e1 e2
        subst e1 e2
        have hpair : ∀ x ∈ ents.toList, ∃ (j : Nat) (e : ME), es[j]? = some e ∧ ents[j]? = some x := fun x hx => by
          obtain ⟨j, hj⟩ := List.mem_iff_getElem?.1 hx
          have hj' : ents[j]? = some x := by simpa using hj
          have hlt := (Array.getElem?_eq_some_iff.1 hj').1
          exact ⟨j, _, List.getElem?_eq_getElem (by omega), hj'⟩
        have hold' : ∀ x ∈ ents.toList, x.born < since := fun x hx => by
          obtain ⟨j, e, he, hj⟩ := hpair x hx
          rw [(hrep j e x he hj).born]
          exact hold e (List.mem_of_getElem? he)
        rcases Go.run_next_at (P := P) w o.type gi gm since last seen.toArray ents clock q2 hb2 hold' hsl with ⟨hl0, hrun⟩ | ⟨x, hxl, w1, hw1, hrun⟩
        · refine wp_val (v := .tuple #[.bool false]) (w' := w) ?_ (h1 ?_ _ _ ⟨gb, g.put hd ?_⟩)
          · unfold execOp
            simp only [hop, hv]
            rw [Sem.run_bind, hrun]; rfl
          · rw [List.eq_nil_iff_forall_not_mem]
            intro e he
            unfold leftE at he
            rw [List.mem_filter] at he
            obtain ⟨he1, he2⟩ := he
            obtain ⟨j, hj⟩ := List.mem_iff_getElem?.1 he1
            have hlt := (List.getElem?_eq_some_iff.1 hj).1
            have hx : ents[j]? = some (ents[j]'(by omega)) := Array.getElem?_eq_getElem (by omega)
            have hb := (hrep j e _ hj hx).born
            have hmem : ents[j]'(by omega) ∈ leftOf ents seen.toArray := by
              unfold leftOf
              rw [Array.mem_filter]
              refine ⟨Array.getElem_mem _, ?_⟩
              rw [hb]
              simpa using he2
            have := Array.eq_empty_of_size_eq_zero hl0
            rw [this] at hmem
            simp at hmem
          · refine Rep.tup [.lit (.bool false)] [.bool false] rfl fun j c y hc hy => ?_
            match j with
            | 0 => simp only [List.getElem?_cons_zero, Option.some.injEq] at hc hy; subst hc hy; exact .lit _
            | j + 1 => simp at hc
        · have hx' : x ∈ ents.toList ∧ !seen.contains x.born := by
            have h3 : x ∈ leftOf ents seen.toArray := by simpa using hxl
            unfold leftOf at h3
            rw [Array.mem_filter] at h3
            exact ⟨by simpa using h3.1, by simpa using h3.2⟩
          obtain ⟨j, e, hje, hjx⟩ := hpair x hx'.1
          have hre := hrep j e x hje hjx
          have hel : e ∈ leftE es seen := by
            unfold leftE
            rw [List.mem_filter]
            refine ⟨List.mem_of_getElem? hje, ?_⟩
            rw [← hre.born]; exact hx'.2
          have hw : w1.heap = w.heap ∧ w1.os = w.os ∧ w1.tape = w.tape ∧ w1.output = w.output := by
            rcases hw1 with rfl | rfl <;> exact ⟨rfl, rfl, rfl, rfl⟩
          have hset := Go.MapKept.heap_set (w := w1) (r := gi) (o' := .mapIter (some gm) since (seen.toArray.push x.born) clock) (by rw [hw.1]; exact q2)
          obtain ⟨wn, hwn⟩ : ∃ wn, wn = Go.ChangeMaps.setBlock w1 gi (.mapIter (some gm) since (seen.toArray.push x.born) clock) := ⟨_, rfl⟩
          have hch : Chg F gb s.heap gi w wn := by
            subst hwn
            refine ⟨hw.2.1, hw.2.2.1, hw.2.2.2, by simp [Go.ChangeMaps.setBlock, hw.1], fun k hk => by have := hset.2 k hk; rw [hw.1] at this; simpa [Go.ChangeMaps.setBlock, hw.1] using this, fun o u _ hc => by simp [World.cell?, q2] at hc, fun cur e fr hc => by rw [q2] at hc; cases hc⟩
          have hblk : wn.heap[gi]? = some (.mapIter (some gm) since (seen.toArray.push x.born) clock) := by subst hwn; exact hset.1
          rw [← hwn] at hrun
          refine wp_val (v := .tuple #[.bool true, x.key, x.val]) (w' := wn) ?_ (h2 e hel _ _ ⟨gb, ?_⟩)
          · unfold execOp
            simp only [hop, hv]
            rw [Sem.run_bind, hrun]; rfl
          · have hg' := g.change (oo' := .iter (some m) since (seen ++ [e.born]) clock) hi trivial trivial (fun k => Iff.rfl) hg hch (fun o u hc => by simp [World.cell?, q2] at hc) ⟨some gm, ⟨sm, hsm⟩, by rw [hblk, hre.born]; simp⟩
            have hkp := chg_keep (oo' := .iter (some m) since (seen ++ [e.born]) clock) hi (fun k => Iff.rfl) hch
            refine hg'.put hd (Rep.tup [.lit (.bool true), e.key, e.val] [.bool true, x.key, x.val] rfl fun j c y hc hy => ?_)
            match j with
            | 0 => simp only [List.getElem?_cons_zero, Option.some.injEq] at hc hy; subst hc hy; exact .lit _
            | 1 => simp only [List.getElem?_cons_succ, List.getElem?_cons_zero, Option.some.injEq] at hc hy; subst hc hy; exact hre.key.keep hkp (Ext.refl _)
            | 2 => simp only [List.getElem?_cons_succ, List.getElem?_cons_zero, Option.some.injEq] at hc hy; subst hc hy; exact hre.val.keep hkp (Ext.refl _)
            | j + 3 => simp at hc
    · cases he'
theorem gsem_ok {ops : Array Oper} {b : Bool} (g : Good P N F w0 gb0 H0 s a w gb) (h : gsem ops.toList s o = some b) : Region.wanted o (yielded ops a.tmps) = b := by
  unfold gsem at h
  unfold Region.wanted
  split at h
  · rename_i hg
    simp only [Option.some.injEq] at h
    simp [hg, h]
  · rename_i j want hg
    simp only [hg]
    rw [Option.bind_eq_some_iff] at h
    obtain ⟨d, hd, h⟩ := h
    unfold AV.said? at h
    split at h
    · rename_i x c hc
      simp only [Option.some.injEq] at h
      subst h
      have hv := rep_lit? (g.slots d) (u := .bool c) (by rw [hc]; rfl)
      have hy : yielded ops a.tmps j = some c := by
        unfold yielded
        rw [Array.getElem?_toList] at hd
        have h1 : a.tmps[d]? = some (.bool c) := by
          rw [Array.getD_eq_getD_getElem?] at hv
          cases hx : a.tmps[d]? with
          | none => rw [hx] at hv; cases hv
          | some y => rw [hx] at hv; exact congrArg some hv
        simp only [hd, Option.bind_some, h1]
      rw [hy]
      rfl
    · rename_i x vs hc
      simp only [Option.some.injEq] at h
      subst h
      have hv := rep_lit? (g.slots d) (u := .tuple vs) (by rw [hc]; rfl)
      have hy : yielded ops a.tmps j = none := by
        unfold yielded
        rw [Array.getElem?_toList] at hd
        simp only [hd, Option.bind_some]
        rw [Array.getD_eq_getD_getElem?] at hv
        cases hx : a.tmps[d]? with
        | none => rfl
        | some y =>
          rw [hx] at hv
          have : y = .tuple vs := hv
          rw [this]
      rw [hy]
      rfl
    · cases h
/-- The walk through a region in the text's order. -/
theorem rk_sound {ops : Array Oper} (hT : T.Ok P) : ∀ (l : List Oper), (∀ o ∈ l, okD N o = true) → ∀ {s : AS} {a : Act} {w : World} {Ka : AS → Prop}, R P N F w0 gb0 H0 s a w → rk P T A ops.toList l s Ka → (∀ s' a' w', Ka s' → R P N F w0 gb0 H0 s' a' w' → Q .normal a' w') → wpList P ops Q l a w := by
  intro l
  induction l with
  | nil => intro _ s a w Ka hr h hK; exact wpList_nil (hK s a w h hr)
  | cons o l ih =>
    intro hok s a w Ka hr h hK
    obtain ⟨gb, g⟩ := hr
    have hd : ∀ k, o.dst = some k → k < N := fun k hk => by
      have := hok o (by simp)
      unfold okD at this
      rw [hk] at this
      exact Nat.le_of_ble_eq_true this
    have hok' : ∀ o ∈ l, okD N o = true := fun o ho => hok o (by simp [ho])
    refine wpList_step fun Kc hKc => ?_
    unfold rk at h
    split at h
    · rename_i hg
      have hw := gsem_ok g hg
      rw [hw, if_pos rfl]
      split at h
      · rename_i s' hs'
        exact fop_sound hT hs' g hd fun a' w' hr' => hKc _ _ (ih hok' hr' h hK)
      · split at h
        · rename_i c hop
          split at h
          · rename_i f as hc
            rcases h with ⟨res, hA, h⟩ | ⟨Post, hA, h⟩
            · exact s_call hop hc hA g hd fun a' w' hr' => hKc _ _ (ih hok' hr' h hK)
            · exact s_hcall hop hc hA g hd fun res H' n' hp a' w' hr' => hKc _ _ (ih hok' hr' (h res H' n' hp) hK)
          · exact h.elim
        · rename_i x hop
          split at h
          · rename_i id hx
            split at h
            · rename_i m since seen last hi
              split at h
              · rename_i es clock hm
                obtain ⟨q1, q2, q3, q4⟩ := h
                exact s_next hop hx hi hm q1 q2 g hd (fun hl a' w' hr' => hKc _ _ (ih hok' hr' (q3 hl) hK)) (fun e he a' w' hr' => hKc _ _ (ih hok' hr' (q4 e he) hK))
              · exact h.elim
            · exact h.elim
          · exact h.elim
        · exact h.elim
    · rename_i hg
      have hw := gsem_ok g hg
      rw [hw, if_neg (by simp)]
      exact hKc _ _ (ih hok' ⟨gb, g.put hd (x := .skip) (Rep.lit undef)⟩ h hK)
    · exact h.elim
end
end Go.Proofs.Ytheanmfdfoefoaa.Hv
set_option linter.unusedVariables false
set_option linter.unusedSimpArgs false
namespace Go.Proofs.Ytheanmfdfoefoaa.Hv
open Go Go.RowKit

def namesOf (all : List Oper) (o : Oper) : List Nat :=
  (o.op.operands.toList.filterMap fun | .tmp t => some t | _ => none) ++ (match o.guard with | none => [] | some (j, _) => (((all[j]?).bind (·.dst)).toList))
/-- An operation that only reads (or lays things that nobody writes). -/
def isR (T : Tbl) (o : Oper) : Bool := match o.op with
  | .move _ | .pick .. | .binOp .. | .unOp .. | .load .. | .fieldAddr .. | .indexAddr .. | .index .. | .lookup .. | .build .. | .extract .. | .slice _ _ _ _ none | .nilCheck _ | .makeFunc .. | .entry _ => true
  | .buildSlice _ _ parts => match parts.toList with | [] => false | _ :: _ => true
  | .convert _ t _ => !T.byts.elem t
  | .call c => match c.callee with | .builtin .len | .builtin .cap | .builtin .min | .builtin .max => true | _ => false
  | _ => false
/-- Does its value depend on the heap? -/
def heapR (o : Oper) : Bool := match o.op with
  | .move _ | .pick .. | .binOp .. | .unOp .. | .fieldAddr .. | .index .. | .build .. | .extract .. | .slice .. | .nilCheck _ | .makeFunc .. | .buildSlice .. => false
  | .call c => match c.callee with | .builtin .min | .builtin .max => false | _ => true
  | _ => true
def dval (T : Tbl) (s : AS) (o : Oper) : Option AV := match o.op with
  | .buildSlice t n parts => match lk? T.sls t with
    | some I => if parts.toList.map (·.1) = List.range n ∧ n * I.size ≤ 16777216 ∧ ∀ it ∈ bsItems s.eval parts.toList, it.length = I.size ∧ it.all AV.isOne = true then some (.sl (bsItems s.eval parts.toList)) else none
    | none => none
  | op => fval T s.heap op s.eval
def gdval (T : Tbl) (all : List Oper) (s : AS) (o : Oper) : Option AV := match gsem all s o with
  | some true => dval T s o
  | some false => some .skip
  | none => none
def dstD (o : Oper) (s : AS) : AV := match o.dst with | some d => s.get d | none => .dead
/-- What an allocation that asks the heap for nothing lays, and its value at a number. -/
def newOf (T : Tbl) (A : Vis) (o : Oper) (ρ : Operand → AV) : Option (Nat × AO × (Nat → AV)) := match o.op with
  | .alloc e => match o.dst, lk? T.zeros e with
    | some d, some z => if (zeroA z).all AV.isOne = true then some (d, .cells (zeroA z), fun id => .ptr id 0) else none
    | _, _ => none
  | .makeSlice t l c => match o.dst, lk? T.sls t, (ρ l).int?, (ρ c).int? with
    | some d, some I, some (_, l), some (_, c) => if (0 ≤ l ∧ l ≤ c ∧ I.bytes * c ≤ bif A.caps.elem d then 281474976710656 else 140737488355328) ∧ (zeroA I.zero).all AV.isOne = true then (bif A.caps.elem d then some (d, .row true I.e (List.replicate c.toNat (zeroA I.zero)), fun id => .rc id I.size l.toNat c.toNat) else some (d, .row (A.muts.elem d) I.e (List.replicate l.toNat (zeroA I.zero)), fun id => .rw id I.size 0 l.toNat)) else none
    | _, _, _, _ => none
  | .buildSlice t n parts => match o.dst, lk? T.sls t, n, parts.toList with
    | some d, some I, 0, [] => some (d, .row (A.muts.elem d) I.e [], fun id => .rw id I.size 0 0)
    | _, _, _, _ => none
  | _ => none
def isNew (o : Oper) : Bool := match o.op with
  | .alloc _ | .makeSlice .. => true
  | .buildSlice _ n parts => match n, parts.toList with | 0, [] => true | _, _ => false
  | _ => false
section
variable (P : Program) (T : Tbl) (A : Vis)
/-- Allocations that may be done early are sure to go well. -/
def annOk (all : List Oper) (s : AS) : List Nat → Prop
  | [] => True
  | k :: r => (match all[k]? with | some o => (newOf T A o s.eval).isSome = true | none => False) ∧ annOk all s r
/-- What an operation makes of the heap, and its value. -/
def eff1 (o : Oper) (s : AS) (KK : Hp → Nat → AV → Prop) : Prop :=
  match fop T A o s with
  | some s' => KK s'.heap s'.next (dstD o s')
  | none => match o.op with
    | .call c => match callee? s c with
      | some (f, as) => (∃ res, ACalls P f (as.map (AV.view s.heap)) res ∧ KK s.heap s.next res) ∨ ∃ Post, HCalls P f as s.heap s.next Post ∧ ∀ res H' n', Post res H' n' → KK H' n' res
      | none => False
    | _ => False
def geff (all : List Oper) (o : Oper) (s : AS) (KK : Hp → Nat → AV → Prop) : Prop := match gsem all s o with
  | some true => eff1 P T A o s KK
  | some false => KK s.heap s.next .skip
  | none => False
def pinsOk (all : List Oper) (s : AS) : List Nat → Prop
  | [] => True
  | i :: r => (match all[i]? with | some o => gdval T all s o = some (dstD o s) | none => False) ∧ pinsOk all s r
def rkD (all : List Oper) : List (Nat × List Nat × List Nat) → AS → (AS → Prop) → Prop
  | [], s, K => K s
  | (i, pins, _) :: r, s, K => match all[i]? with
    | some o => bif isR T o then (match gdval T all s o with
      | some v => (match pins with
        | [] => rkD all r (s.put o.dst v) K
        | k :: ks => annOk T A all (s.put o.dst v) (k :: ks) ∧ rkD all r (s.put o.dst v) K)
      | none => False) else geff P T A all o s fun H' n' v => pinsOk T all ((⟨s.env, H', n'⟩ : AS).put o.dst v) pins ∧ rkD all r ((⟨s.env, H', n'⟩ : AS).put o.dst v) K
    | none => False
end
section
variable {P : Program} {T : Tbl} {A : Vis} {N : Nat} {F : Nat → Nat → Prop} {w0 w w' : World} {gb0 gb gb' : Gb} {H0 H H' : Hp} {s s' s1 : AS} {a : Act} {n n' : Nat} {o : Oper} {K : Act → World → Prop} {Q : Exit → Act → World → Prop}
theorem R.ext (h : R P N F w0 gb0 H0 s a w) (hh : s'.heap = s.heap) (hn : s'.next = s.next) (hg : ∀ t, s'.get t = s.get t ∨ s'.get t = .dead) : R P N F w0 gb0 H0 s' a w := by
  obtain ⟨gb, g⟩ := h
  refine ⟨gb, g.kept, g.ext, by rw [hh, hn]; exact g.ok, by rw [hh]; exact g.wr0, by rw [hh]; exact g.x0, g.size, g.defers, fun t => ?_⟩
  rw [hh]
  rcases hg t with h | h <;> rw [h]
  · exact g.slots t
  · exact .dead _
theorem get_put (s : AS) (d : Option Nat) (v : AV) (t : Nat) : (s.put d v).get t = if d = some t then v else s.get t := by
  cases d with
  | none => simp [AS.put]
  | some d =>
    show (s.set d v).get t = _
    rw [AS.get_set]
    by_cases h : t = d
    · subst h; simp
    · rw [if_neg h, if_neg (by intro e; injection e with e; exact h e.symm)]
/-! ### what depends on what -/
theorem eval_agree {all : List Oper} (h : ∀ t ∈ namesOf all o, s1.get t = s.get t) : ∀ x ∈ o.op.operands, s1.eval x = s.eval x := by
  intro x hx
  cases x with
  | tmp t =>
    refine h t ?_
    unfold namesOf
    rw [List.mem_append]
    left
    rw [List.mem_filterMap]
    exact ⟨.tmp t, by simpa using hx, rfl⟩
  | _ => rfl
theorem gsem_agree {all : List Oper} (h : ∀ t ∈ namesOf all o, s1.get t = s.get t) : gsem all s1 o = gsem all s o := by
  unfold gsem
  cases hg : o.guard with
  | none => rfl
  | some jw =>
    obtain ⟨j, want⟩ := jw
    simp only
    cases hd : (all[j]?).bind (·.dst) with
    | none => rfl
    | some d =>
      simp only [Option.bind_some]
      rw [h d (by unfold namesOf; rw [List.mem_append]; right; simp only [hg, hd]; simp)]
theorem abuild_local {pl : List (Nat × Nat)} {ρ ρ' : Operand → AV} : ∀ (parts : List (Nat × Operand)) (cs : List AV), (∀ p ∈ parts, ρ p.2 = ρ' p.2) → abuild pl ρ parts cs = abuild pl ρ' parts cs := by
  intro parts
  induction parts with
  | nil => intro cs _; rfl
  | cons p parts ih =>
    obtain ⟨i, x⟩ := p
    intro cs h
    have h0 := h (i, x) (by simp)
    simp only at h0
    simp only [abuild, h0]
    split
    · split
      · exact ih _ fun p hp => h p (by simp [hp])
      · rfl
    · rfl
theorem fval_local {op : Op} {ρ ρ' : Operand → AV} (hρ : ∀ x ∈ op.operands, ρ' x = ρ x) : fval T H op ρ' = fval T H op ρ := by
  cases op with
  | build t parts =>
    unfold fval
    have e : ∀ (pl : List (Nat × Nat)) (cs : List AV), abuild pl ρ' parts.toList cs = abuild pl ρ parts.toList cs := fun pl cs => abuild_local parts.toList cs fun p hp => hρ p.2 (by simp only [Op.operands]; simpa using ⟨p.1, by simpa using hp⟩)
    simp only [e]
  | slice t x lo hi mx =>
    unfold fval
    cases mx with
    | some m => rfl
    | none =>
      have e1 : lo.map ρ' = lo.map ρ := by
        cases lo with
        | none => rfl
        | some y => simp only [Option.map_some]; rw [hρ y (by simp [Op.operands])]
      have e2 : hi.map ρ' = hi.map ρ := by
        cases hi with
        | none => rfl
        | some y => simp only [Option.map_some]; rw [hρ y (by simp [Op.operands])]
      simp only [hρ x (by simp [Op.operands]), e1, e2]
  | makeFunc fn first caps =>
    unfold fval
    cases fn with
    | func f =>
      have e : litArgs ρ' caps = litArgs ρ caps := by
        unfold litArgs
        exact List.map_congr_left fun x hx => hρ x (by simp only [Op.operands]; rw [Array.mem_append]; exact .inr (by simpa using hx))
      simp only [e]
    | _ => rfl
  | call c =>
    have hargs : ∀ x ∈ c.args.toList, ρ' x = ρ x := fun x hx => hρ x (by
      show x ∈ c.operands
      unfold Call.operands
      rw [Array.mem_append]
      exact .inr (by simpa using hx))
    unfold fval
    simp only
    split
    · rename_i x t ts hc hx ht
      rw [hargs x (by rw [hx]; exact List.mem_cons_self)]
    · rename_i x t ts hc hx ht
      rw [hargs x (by rw [hx]; exact List.mem_cons_self)]
    · rename_i hx
      rw [hargs _ (by rw [hx]; exact List.mem_cons_self), hargs _ (by rw [hx]; exact List.mem_cons_of_mem _ List.mem_cons_self)]
    · rename_i hx
      rw [hargs _ (by rw [hx]; exact List.mem_cons_self), hargs _ (by rw [hx]; exact List.mem_cons_of_mem _ List.mem_cons_self)]
    · rfl
  | move x => unfold fval; simp only [hρ x (by simp [Op.operands])]
  | assign x => unfold fval; simp only [hρ x (by simp [Op.operands])]
  | pick c x y => unfold fval; simp only [hρ c (by simp [Op.operands]), hρ x (by simp [Op.operands]), hρ y (by simp [Op.operands])]
  | binOp op _ x y _ => unfold fval; simp only [hρ x (by simp [Op.operands]), hρ y (by simp [Op.operands])]
  | unOp op _ x => unfold fval; simp only [hρ x (by simp [Op.operands])]
  | load _ x => unfold fval; simp only [hρ x (by simp [Op.operands])]
  | fieldAddr _ x _ => unfold fval; simp only [hρ x (by simp [Op.operands])]
  | indexAddr _ x y => unfold fval; simp only [hρ x (by simp [Op.operands]), hρ y (by simp [Op.operands])]
  | index _ x y => unfold fval; simp only [hρ x (by simp [Op.operands]), hρ y (by simp [Op.operands])]
  | lookup _ x y _ => unfold fval; simp only [hρ x (by simp [Op.operands]), hρ y (by simp [Op.operands])]
  | extract x _ => unfold fval; simp only [hρ x (by simp [Op.operands])]
  | convert _ _ x => unfold fval; simp only [hρ x (by simp [Op.operands])]
  | nilCheck x => unfold fval; simp only [hρ x (by simp [Op.operands])]
  | entry x => unfold fval; simp only [hρ x (by simp [Op.operands])]
  | _ => rfl
theorem fval_cold {ρ : Operand → AV} (h : heapR o = false) : fval T H' o.op ρ = fval T H o.op ρ := by
  unfold heapR at h
  cases hop : o.op with
  | call c =>
    rw [hop] at h
    unfold fval
    simp only at h ⊢
    generalize c.args.toList = l1
    generalize c.argTypes.toList = l2
    split at h
    · rename_i hc; rw [hc]; rcases l1 with _ | ⟨x, _ | ⟨y, _ | ⟨z, l⟩⟩⟩ <;> rfl
    · rename_i hc; rw [hc]; rcases l1 with _ | ⟨x, _ | ⟨y, _ | ⟨z, l⟩⟩⟩ <;> rfl
    · cases h
  | makeFunc fn first caps => unfold fval; cases fn <;> rfl
  | slice t x lo hi mx => unfold fval; cases mx <;> rfl
  | _ => first | rfl | (rw [hop] at h; cases h)
theorem bs_local {ρ ρ' : Operand → AV} {parts : List (Nat × Operand)} (h : ∀ p ∈ parts, ρ' p.2 = ρ p.2) : bsItems ρ' parts = bsItems ρ parts := by
  unfold bsItems
  exact List.map_congr_left fun p hp => by rw [h p hp]
theorem dval_agree {all : List Oper} (h : ∀ t ∈ namesOf all o, s1.get t = s.get t) (hh : s1.heap = s.heap ∨ heapR o = false) : dval T s1 o = dval T s o := by
  have he := eval_agree h
  have hf : fval T s1.heap o.op s1.eval = fval T s.heap o.op s.eval := by
    rw [fval_local he]
    rcases hh with hh | hh
    · rw [hh]
    · exact fval_cold hh
  unfold dval
  cases hop : o.op with
  | buildSlice t m parts =>
    simp only
    have : bsItems s1.eval parts.toList = bsItems s.eval parts.toList := bs_local fun p hp => he p.2 (by rw [hop]; simp only [Op.operands]; simpa using ⟨p.1, by simpa using hp⟩)
    rw [this]
  | _ => rw [hop] at hf; exact hf
theorem gdval_agree {all : List Oper} (h : ∀ t ∈ namesOf all o, s1.get t = s.get t) (hh : s1.heap = s.heap ∨ heapR o = false) : gdval T all s1 o = gdval T all s o := by
  unfold gdval
  rw [gsem_agree h, dval_agree h hh]
/-! ### readings are right -/
theorem run_bs {t : TypeId} {m : Nat} {parts : Array (Nat × Operand)} {I : SlI} (hT : T.Ok P) (hI : lk? T.sls t = some I) (hix : parts.toList.map (·.1) = List.range m) (hn : m * I.size ≤ 16777216) (hit : ∀ it ∈ bsItems s.eval parts.toList, it.length = I.size ∧ it.all AV.isOne = true) (g : Good P N F w0 gb0 H0 s a w gb) :
    ∃ vs : Array Value, (Instr.buildSlice t m (parts.map fun (i, x) => (i, a.eval x))).run P w = .ok (.slice (some ⟨w.heap.size, 0, none⟩) m m) (w.alloc (.cells vs I.e)) ∧ RepL w (Wr F gb s.heap) gb (bsItems s.eval parts.toList).flatten vs.toList ∧ (bsItems s.eval parts.toList).length = m := by
  obtain ⟨hu, ⟨i, hi, hz, hsi, hby⟩, hzs, hsz, hbp⟩ := sls_ok hT hI
  have hpl : parts.toList.length = m := by
    have := congrArg List.length hix
    simpa using this
  have hlen : (bsItems s.eval parts.toList).length = m := by unfold bsItems; rw [List.length_map]; exact hpl
  by_cases h0 : m = 0
  · subst h0
    have hp0 : parts = #[] := Array.toList_inj.1 (List.eq_nil_of_length_eq_zero hpl)
    subst hp0
    refine ⟨#[], ?_, RepL.nil, rfl⟩
    simp [Instr.buildSlice, run_underlying hu, sizeOf, typeInfo, hi, Instr.fill, newRow, Array.range_zero']
  · obtain ⟨vs, h1, h2⟩ := fill_row (size := I.size) (B := []) g parts.toList 0 (us := (Array.range (m * I.size)).map (I.zero.cells[· % I.zero.cells.size]!)) (by rw [hpl, hix, List.range_eq_range']) (by simp [hpl]) (by simpa using RepL.nil) hit
    refine ⟨vs, ?_, by simpa using h2, hlen⟩
    have hpos : ¬ m * I.size = 0 := by
      intro h
      rcases Nat.mul_eq_zero.1 h with h | h <;> omega
    refine run_buildSlice w t I.e m _ vs i I.zero hu hi hz (by rw [hsi]; omega) (by rw [hsi]; exact hpos) ?_
    rw [hsi, Array.toList_map]
    exact h1
theorem wr_lt (h : HeapOk P w F gb H n) {b o : Nat} (hw : Wr F gb H b o) : b < w.heap.size := by
  rcases hw with h' | ⟨id, t, hg, _⟩
  · exact h.FB b o h'
  · exact (h.lt id b t hg).2
theorem dval_sound {v : AV} (hT : T.Ok P) (h : dval T s o = some v) (g : Good P N F w0 gb0 H0 s a w gb) (hd : ∀ k, o.dst = some k → k < N) (hK : ∀ a' w', R P N F w0 gb0 H0 (s.put o.dst v) a' w' → K a' w') : o.wp P a w K Q := by
  unfold dval at h
  split at h
  · rename_i t m parts hop
    split at h
    · rename_i I hI
      split at h
      · rename_i hc
        obtain ⟨hix, hn, hit⟩ := hc
        simp only [Option.some.injEq] at h
        subst h
        obtain ⟨vs, hrun, hrep, hlen⟩ := run_bs hT hI hix hn hit g
        obtain ⟨b1, b2, b3⟩ := alloc_below w (.cells vs I.e)
        obtain ⟨_, _, _, hsz, _⟩ := sls_ok hT hI
        have hcap : m ≤ maxLen := by
          have := Nat.le_mul_of_pos_right m hsz
          simp only [maxLen]; omega
        have hcell : ∀ (j : Nat) (x : AV), (bsItems s.eval parts.toList).flatten[j]? = some x → ∃ u, vs.toList[j]? = some u := fun j x hx => by
          have := (List.getElem?_eq_some_iff.1 hx).1
          have := hrep.len
          exact ⟨_, List.getElem?_eq_getElem (by omega)⟩
        refine wp_val (v := .slice (some ⟨w.heap.size, 0, none⟩) m m) (w' := w.alloc (.cells vs I.e)) (by unfold execOp; simp only [hop]; rw [Sem.run_bind, hrun]; rfl) (hK _ _ ⟨gb, (g.world b1).put hd ?_⟩)
        have := Rep.sl (w := w.alloc (.cells vs I.e)) (W := Wr F gb s.heap) (gb := gb) (bsItems s.eval parts.toList) I.size (some ⟨w.heap.size, 0, none⟩) m w.heap.size 0 (fun j => (vs.toList[j]?).getD undef) (fun it h => (hit it h).1) (by rw [hlen]; exact Nat.le_refl _) hcap (fun _ => rfl) (fun j x hx => ?_) (fun j x hx hw => ?_) (fun j x hx => ?_) (fun j x hx => ?_)
        · rwa [hlen] at this
        · obtain ⟨u, hu⟩ := hcell j x hx
          rw [Nat.zero_add, hu]
          exact cell_of b3 hu
        · have := wr_lt g.ok hw
          omega
        · obtain ⟨u, hu⟩ := hcell j x hx
          rw [hu]
          exact hrep.one u (List.mem_of_getElem? hu)
        · obtain ⟨u, hu⟩ := hcell j x hx
          rw [hu]
          exact (hrep.rep j x u hx hu).keep (fun b o u hn hc => ⟨(b1.cell (p := ⟨_, _, none⟩) (cell_lt hc)).trans hc, hn⟩) (Ext.refl _)
      · cases h
    · cases h
  · obtain ⟨u, hrun, hrep⟩ := fval_sound hT h g
    exact wp_val hrun (hK _ _ ⟨gb, g.put hd hrep⟩)
end
end Go.Proofs.Ytheanmfdfoefoaa.Hv
set_option linter.unusedVariables false
set_option linter.unusedSimpArgs false
namespace Go.Proofs.Ytheanmfdfoefoaa.Hv
open Go Go.RowKit

section
variable {P : Program} {T : Tbl} {A : Vis} {H : Hp} {n : Nat} {o : Oper} {e e1 : List (Nat × AV)}
/-- A state with another's slots. -/
def AS.re (e1 : List (Nat × AV)) (o : Oper) (r : AS) : AS := (⟨e1, r.heap, r.next⟩ : AS).put o.dst (dstD o r)
theorem re_put {v : AV} {H' : Hp} {n' : Nat} : AS.re e1 o ((⟨e, H', n'⟩ : AS).put o.dst v) = (⟨e1, H', n'⟩ : AS).put o.dst v := by
  unfold AS.re dstD
  cases hd : o.dst with
  | none => rfl
  | some d =>
    have h1 : ((⟨e, H', n'⟩ : AS).put (some d) v).get d = v := by rw [get_put, if_pos rfl]
    simp only [h1]
    rfl
theorem re_set {d : Nat} {v : AV} {H' : Hp} {n' : Nat} (hd : o.dst = some d) : AS.re e1 o ((⟨e, H', n'⟩ : AS).set d v) = (⟨e1, H', n'⟩ : AS).set d v := by
  have := re_put (o := o) (e := e) (e1 := e1) (v := v) (H' := H') (n' := n')
  rw [hd] at this
  exact this
theorem feff_re (hρ : ∀ x ∈ o.op.operands, (⟨e1, H, n⟩ : AS).eval x = (⟨e, H, n⟩ : AS).eval x) : feff T A o ⟨e1, H, n⟩ = (feff T A o ⟨e, H, n⟩).map (AS.re e1 o) := by
  cases hop : o.op with
  | box t x =>
    have hx := hρ x (by rw [hop]; simp [Op.operands])
    simp only [feff, hop, hx]
    split
    · rename_i d hd
      split
      · rw [Option.map_some]; exact congrArg some (re_set hd).symm
      · rfl
    · rfl
  | alloc t =>
    simp only [feff, hop]
    split
    · rename_i d z hd hz
      split
      · rw [Option.map_some]; exact congrArg some (re_set hd).symm
      · rfl
    · rfl
  | buildSlice t m parts =>
    have hb : bsItems (⟨e1, H, n⟩ : AS).eval parts.toList = bsItems (⟨e, H, n⟩ : AS).eval parts.toList := bs_local fun p hp => hρ p.2 (by rw [hop]; simp only [Op.operands]; simpa using ⟨p.1, by simpa using hp⟩)
    simp only [feff, hop, hb]
    split
    · rename_i d I hd hI
      split
      · rw [Option.map_some]; exact congrArg some (re_set hd).symm
      · rfl
    · rfl
  | makeSlice t l c =>
    have hl := hρ l (by rw [hop]; simp [Op.operands])
    have hc := hρ c (by rw [hop]; simp [Op.operands])
    simp only [feff, hop, hl, hc]
    split
    · rename_i d I k1 l1 k2 c1 hd hI h3 h4
      split
      · cases A.caps.elem d with
        | true => simp only [cond_true]; rw [Option.map_some]; exact congrArg some (re_set hd).symm
        | false => simp only [cond_false]; rw [Option.map_some]; exact congrArg some (re_set hd).symm
      · rfl
    · rfl
  | makeMap t r =>
    cases r with
    | none =>
      simp only [feff, hop]
      split
      · rename_i d I hd hI
        rw [Option.map_some]; exact congrArg some (re_set hd).symm
      · rfl
    | some r => simp only [feff, hop]; rfl
  | range t x =>
    have hx := hρ x (by rw [hop]; simp [Op.operands])
    simp only [feff, hop, hx]
    split
    · rename_i d I id hd hI h3
      split
      · rw [Option.map_some]; exact congrArg some (re_set hd).symm
      · rfl
    · rfl
  | convert t0 t x =>
    have hx := hρ x (by rw [hop]; simp [Op.operands])
    simp only [feff, hop, hx]
    split
    · rename_i d u I hd hI h3
      cases (T.strs.elem t0 && T.byts.elem t && Nat.ble u.size 140737488355328) with
      | true => simp only [cond_true]; rw [Option.map_some]; exact congrArg some (re_set hd).symm
      | false => rfl
    · rename_i d id sz ko len I hd hI h3
      split
      · split
        · rw [Option.map_some]; exact congrArg some (re_set hd).symm
        · rfl
      · rfl
    · rfl
  | slice t x lo hi mx =>
    cases lo with
    | some lo => simp only [feff, hop]; rfl
    | none =>
      cases hi with
      | none => simp only [feff, hop]; rfl
      | some hi =>
        cases mx with
        | none => simp only [feff, hop]; rfl
        | some mx =>
          have hx := hρ x (by rw [hop]; simp [Op.operands])
          have hh := hρ hi (by rw [hop]; simp [Op.operands])
          have hm := hρ mx (by rw [hop]; simp [Op.operands])
          simp only [feff, hop, hx, hh, hm]
          split
          · rename_i d I id sz len k1 h1 k2 m1 hd hI h3 h4 h5
            split
            · split
              · rw [Option.map_some]; exact congrArg some (re_set hd).symm
              · rfl
            · rfl
          · rfl
  | store t p x =>
    have hp := hρ p (by rw [hop]; simp [Op.operands])
    have hx := hρ x (by rw [hop]; simp [Op.operands])
    simp only [feff, hop, hx, hp]
    split
    · split
      · split
        · rw [Option.map_some]; exact congrArg some (re_put).symm
        · rfl
      · rfl
    · split
      · split
        · split
          · rw [Option.map_some]; exact congrArg some (re_put).symm
          · rfl
        · rfl
      · rfl
    · split
      · split
        · rw [Option.map_some]; exact congrArg some (re_put).symm
        · rfl
      · rfl
    · rfl
  | mapUpdate t m k x =>
    have hm := hρ m (by rw [hop]; simp [Op.operands])
    have hk := hρ k (by rw [hop]; simp [Op.operands])
    have hx := hρ x (by rw [hop]; simp [Op.operands])
    simp only [feff, hop, hx, hm, hk]
    split
    · rename_i I id hI hid
      cases keyKindH T H I.key ((⟨e, H, n⟩ : AS).eval k) with
      | false => rfl
      | true =>
        simp only [cond_true]
        split
        · split
          · split
            · rw [Option.map_some]; exact congrArg some (re_put).symm
            · rfl
          · rw [Option.map_some]; exact congrArg some (re_put).symm
          · rfl
        · rfl
    · rfl
  | call c =>
    have hargs : ∀ x ∈ c.args.toList, (⟨e1, H, n⟩ : AS).eval x = (⟨e, H, n⟩ : AS).eval x := fun x hx => hρ x (by
      rw [hop]
      show x ∈ c.operands
      unfold Call.operands
      rw [Array.mem_append]
      exact .inr (by simpa using hx))
    simp only [feff, hop]
    generalize hl2 : c.argTypes.toList = l2
    generalize hl1 : c.args.toList = l1 at hargs ⊢
    cases hc : c.callee with
    | builtin b =>
      cases b with
      | delete =>
        match l1, l2, hargs with
        | [m, k], t :: ts, hargs =>
          simp only [hargs m (by simp), hargs k (by simp)]
          split
          · rename_i I id hI hid
            cases keyKindH T H I.key ((⟨e, H, n⟩ : AS).eval k) with
            | false => rfl
            | true =>
              simp only [cond_true]
              split
              · split
                · rw [Option.map_some]; exact congrArg some (re_put).symm
                · rw [Option.map_some]; exact congrArg some (re_put).symm
                · rfl
              · rfl
          · rfl
        | [], _, _ => rfl
        | [_], _, _ => rfl
        | [_, _], [], _ => rfl
        | _ :: _ :: _ :: _, _, _ => rfl
      | _ => rfl
    | _ => rfl
  | _ => simp only [feff, hop]; rfl
theorem its_env {x : AV} : True := trivial
theorem anews_env (t : Nat) (y : AV) : anews T H t y = anews T H t y := rfl
theorem fapp_re {c : Call} (hargs : ∀ x ∈ c.args.toList, (⟨e1, H, n⟩ : AS).eval x = (⟨e, H, n⟩ : AS).eval x) : fapp T A c o.dst ⟨e1, H, n⟩ = (fapp T A c o.dst ⟨e, H, n⟩).map (AS.re e1 o) := by
  unfold fapp
  generalize hl2 : c.argTypes.toList = l2
  generalize hl1 : c.args.toList = l1 at hargs ⊢
  cases hc : c.callee with
  | builtin b =>
    cases b with
    | append =>
      match l1, l2, hargs with
      | [x, y], [t, tx], hargs =>
        cases hd : o.dst with
        | none => rfl
        | some d =>
          simp only [hargs x (by simp), hargs y (by simp)]
          split
          · split
            · split
              · split
                · rw [Option.map_some]; exact congrArg some (re_set hd).symm
                · rfl
              · rfl
            · rename_i v _
              cases isNilV v with
              | false => rfl
              | true =>
                simp only [cond_true]
                split
                · rw [Option.map_some]; exact congrArg some (re_set hd).symm
                · rfl
            · rfl
          · rfl
      | [], _, _ => rfl
      | [_], _, _ => rfl
      | [_, _], [], _ => rfl
      | [_, _], [_], _ => rfl
      | [_, _], _ :: _ :: _ :: _, _ => rfl
      | _ :: _ :: _ :: _, _, _ => rfl
    | _ => rfl
  | _ => rfl
theorem fmore_re (hρ : ∀ x ∈ o.op.operands, (⟨e1, H, n⟩ : AS).eval x = (⟨e, H, n⟩ : AS).eval x) : fmore T A o ⟨e1, H, n⟩ = (fmore T A o ⟨e, H, n⟩).map (AS.re e1 o) := by
  cases hop : o.op with
  | mapEntry t m k =>
    have hm := hρ m (by rw [hop]; simp [Op.operands])
    have hk := hρ k (by rw [hop]; simp [Op.operands])
    simp only [fmore, hop, hm, hk]
    split
    · rename_i d I id hd hI hid
      cases keyKindH T H I.key ((⟨e, H, n⟩ : AS).eval k) with
      | false => rfl
      | true =>
        simp only [cond_true]
        split
        · split
          · split
            · rw [Option.map_some]; exact congrArg some (re_set hd).symm
            · rfl
          · rw [Option.map_some]; exact congrArg some (re_set hd).symm
          · rfl
        · rfl
    · rfl
  | entryStore t m st x =>
    have hm := hρ m (by rw [hop]; simp [Op.operands])
    have hs := hρ st (by rw [hop]; simp [Op.operands])
    have hx := hρ x (by rw [hop]; simp [Op.operands])
    simp only [fmore, hop, hm, hs, hx]
    split
    · split
      · split
        · split
          · rw [Option.map_some]; exact congrArg some (re_put).symm
          · rfl
        · rfl
      · rfl
    · rfl
  | call c =>
    have hargs : ∀ x ∈ c.args.toList, (⟨e1, H, n⟩ : AS).eval x = (⟨e, H, n⟩ : AS).eval x := fun x hx => hρ x (by
      rw [hop]
      show x ∈ c.operands
      unfold Call.operands
      rw [Array.mem_append]
      exact .inr (by simpa using hx))
    simp only [fmore, hop]
    generalize hl2 : c.argTypes.toList = l2
    generalize hl1 : c.args.toList = l1 at hargs ⊢
    cases hc : c.callee with
    | builtin b =>
      cases b with
      | copy =>
        match l1, l2, hargs with
        | [x, y], [t, ty], hargs =>
          simp only [hargs x (by simp), hargs y (by simp)]
          split
          · split
            · split
              · split
                · split
                  · rw [Option.map_some]; exact congrArg some (re_put).symm
                  · rfl
                · rfl
              · split
                · split
                  · rw [Option.map_some]; exact congrArg some (re_put).symm
                  · rfl
                · rfl
              · rfl
            · rfl
          · rfl
        | [], _, _ => rfl
        | [_], _, _ => rfl
        | [_, _], [], _ => rfl
        | [_, _], [_], _ => rfl
        | [_, _], _ :: _ :: _ :: _, _ => rfl
        | _ :: _ :: _ :: _, _, _ => rfl
      | append =>
        match l1, l2, hargs with
        | [x, y], [t, ty], hargs =>
          simp only [hargs x (by simp), hargs y (by simp)]
          split
          · split
            · split
              · rw [Option.map_some]; exact congrArg some (re_put).symm
              · rfl
            · rfl
          · rfl
        | [], _, _ => rfl
        | [_], _, _ => rfl
        | [_, _], [], _ => rfl
        | [_, _], [_], _ => rfl
        | [_, _], _ :: _ :: _ :: _, _ => rfl
        | _ :: _ :: _ :: _, _, _ => rfl
      | clear =>
        match l1, l2, hargs with
        | [x], [t], hargs =>
          simp only [hargs x (by simp)]
          split
          · split
            · split
              · rw [Option.map_some]; exact congrArg some (re_put).symm
              · rfl
            · rfl
          · rfl
        | [], _, _ => rfl
        | [_], [], _ => rfl
        | [_], _ :: _ :: _, _ => rfl
        | _ :: _ :: _, _, _ => rfl
      | _ => rfl
    | _ => rfl
  | _ => simp only [fmore, hop]; rfl
theorem acutM_re (hρ : ∀ x ∈ o.op.operands, (⟨e1, H, n⟩ : AS).eval x = (⟨e, H, n⟩ : AS).eval x) : acutM A T o ⟨e1, H, n⟩ = (acutM A T o ⟨e, H, n⟩).map (AS.re e1 o) := by
  unfold acutM
  split
  · rename_i t x hi mx d hop hd
    have hx := hρ x (by rw [hop]; simp [Op.operands])
    have hh := hρ hi (by rw [hop]; simp [Op.operands])
    cases A.cut.elem d with
    | false => rfl
    | true =>
      simp only [cond_true, hx, hh]
      split
      · split
        · split
          · rw [Option.map_some]; exact congrArg some (re_set hd).symm
          · rfl
        · rfl
      · rfl
  · rfl
theorem fop_re (hρ : ∀ x ∈ o.op.operands, (⟨e1, H, n⟩ : AS).eval x = (⟨e, H, n⟩ : AS).eval x) : fop T A o ⟨e1, H, n⟩ = (fop T A o ⟨e, H, n⟩).map (AS.re e1 o) := by
  have other : (∀ x, o.op ≠ .assign x) → fop T A o ⟨e1, H, n⟩ = (fop T A o ⟨e, H, n⟩).map (AS.re e1 o) := by
    intro hna
    have key : ∀ e', fop T A o ⟨e', H, n⟩ = match fval T H o.op (⟨e', H, n⟩ : AS).eval with
      | some v => match acutM A T o ⟨e', H, n⟩ with
        | some s' => some s'
        | none => some ((⟨e', H, n⟩ : AS).put o.dst v)
      | none => match feff T A o ⟨e', H, n⟩ with
        | some s' => some s'
        | none => match o.op with
          | .call c => match fapp T A c o.dst ⟨e', H, n⟩ with
            | some s' => some s'
            | none => fmore T A o ⟨e', H, n⟩
          | _ => fmore T A o ⟨e', H, n⟩ := by
      intro e'
      unfold fop
      cases hop : o.op <;> first | rfl | exact absurd hop (hna _)
    rw [key e1, key e, fval_local hρ, acutM_re hρ, feff_re hρ]
    cases fval T H o.op (⟨e, H, n⟩ : AS).eval with
    | some v =>
      simp only
      cases acutM A T o ⟨e, H, n⟩ with
      | some r => rfl
      | none => simp only [Option.map_none, Option.map_some]; exact congrArg some (re_put).symm
    | none =>
      simp only
      cases feff T A o ⟨e, H, n⟩ with
      | some r => rfl
      | none =>
        simp only [Option.map_none]
        cases hop : o.op with
        | call c =>
          simp only
          rw [fapp_re fun x hx => hρ x (by
            rw [hop]
            show x ∈ c.operands
            unfold Call.operands
            rw [Array.mem_append]
            exact .inr (by simpa using hx)), fmore_re hρ]
          cases fapp T A c o.dst ⟨e, H, n⟩ <;> rfl
        | _ => simp only; exact fmore_re hρ
  cases hop : o.op with
  | assign x =>
    have hx := hρ x (by rw [hop]; simp [Op.operands])
    simp only [fop, hop, hx]
    cases hi : (bif isNilO x then lk? T.sls o.type else none) with
    | none =>
      cases hd : o.dst with
      | none => simp only [Option.map_some, AS.re, hd]; rfl
      | some d =>
        simp only [Option.map_some]
        have := re_set (o := o) (e := e) (e1 := e1) (d := d) (v := (⟨e, H, n⟩ : AS).eval x) (H' := H) (n' := n) hd
        exact congrArg some this.symm
    | some I =>
      cases hd : o.dst with
      | none => simp only [Option.map_some, AS.re, hd]; rfl
      | some d =>
        simp only [Option.map_some]
        exact congrArg some (re_set hd).symm
  | _ => exact other (fun x hx => by rw [hop] at hx; cases hx)
end
end Go.Proofs.Ytheanmfdfoefoaa.Hv
set_option linter.unusedVariables false
set_option linter.unusedSimpArgs false
namespace Go.Proofs.Ytheanmfdfoefoaa.Hv
open Go Go.RowKit

section
variable {P : Program} {T : Tbl} {A : Vis} {N : Nat} {F F' : Nat → Nat → Prop} {w0 w w' : World} {gb0 gb gb' : Gb} {H0 H H' : Hp} {s s' s1 : AS} {a a' : Act} {n n' : Nat} {o : Oper} {K : Act → World → Prop} {Q : Exit → Act → World → Prop}
theorem newOf_op {ρ : Operand → AV} {d : Nat} {oo : AO} {v : Nat → AV} (h : newOf T A o ρ = some (d, oo, v)) : o.dst = some d ∧ isNew o = true := by
  unfold newOf at h
  split at h
  · rename_i e hop
    split at h
    · rename_i d' z hd hz
      split at h
      · simp only [Option.some.injEq, Prod.mk.injEq] at h
        rw [← h.1]; exact ⟨hd, by unfold isNew; rw [hop]⟩
      · cases h
    · cases h
  · rename_i t l c hop
    split at h
    · rename_i d' I k1 l1 k2 c1 hd hI h3 h4
      split at h
      · cases hcp : A.caps.elem d' with
        | true =>
          rw [hcp] at h
          simp only [cond_true, Option.some.injEq, Prod.mk.injEq] at h
          rw [← h.1]; exact ⟨hd, by unfold isNew; rw [hop]⟩
        | false =>
          rw [hcp] at h
          simp only [cond_false, Option.some.injEq, Prod.mk.injEq] at h
          rw [← h.1]; exact ⟨hd, by unfold isNew; rw [hop]⟩
      · cases h
    · cases h
  · rename_i t m parts hop
    split at h
    · rename_i d' I hd hI hp
      simp only [Option.some.injEq, Prod.mk.injEq] at h
      rw [← h.1]; exact ⟨hd, by unfold isNew; simp only [hop, hp]⟩
    · cases h
  · cases h
theorem newOf_fop {d : Nat} {oo : AO} {v : Nat → AV} (h : newOf T A o s.eval = some (d, oo, v)) : fop T A o s = some ((s.fresh oo).set d (v s.next)) := by
  have key : feff T A o s = some ((s.fresh oo).set d (v s.next)) ∧ fval T s.heap o.op s.eval = none ∧ (∀ x, o.op ≠ .assign x) := by
    unfold newOf at h
    split at h
    · rename_i e hop
      refine ⟨?_, by rw [hop]; rfl, fun x hx => by rw [hop] at hx; cases hx⟩
      unfold feff
      simp only [hop]
      split at h
      · rename_i d' z hd hz
        split at h
        · rename_i hc
          simp only [Option.some.injEq, Prod.mk.injEq] at h
          obtain ⟨rfl, rfl, rfl⟩ := h
          simp only [hd, hz]
          rw [if_pos hc]
        · cases h
      · cases h
    · rename_i t l c hop
      refine ⟨?_, by rw [hop]; rfl, fun x hx => by rw [hop] at hx; cases hx⟩
      unfold feff
      simp only [hop]
      split at h
      · rename_i d' I k1 l1 k2 c1 hd hI h3 h4
        split at h
        · rename_i hc
          simp only [hd, hI, h3, h4]
          rw [if_pos hc]
          cases hcp : A.caps.elem d' with
          | true =>
            rw [hcp] at h
            simp only [cond_true, Option.some.injEq, Prod.mk.injEq] at h
            obtain ⟨rfl, rfl, rfl⟩ := h
            rfl
          | false =>
            rw [hcp] at h
            simp only [cond_false, Option.some.injEq, Prod.mk.injEq] at h
            obtain ⟨rfl, rfl, rfl⟩ := h
            rfl
        · cases h
      · cases h
    · rename_i t m parts hop
      split at h
      · rename_i d' I hd hI hp
        refine ⟨?_, by rw [hop]; rfl, fun x hx => by rw [hop] at hx; cases hx⟩
        simp only [Option.some.injEq, Prod.mk.injEq] at h
        obtain ⟨rfl, rfl, rfl⟩ := h
        unfold feff
        simp only [hop, hd, hI, hp]
        rw [if_pos ⟨rfl, by simp, fun it hit => by simp [bsItems] at hit⟩]
        rfl
      · cases h
    · cases h
  obtain ⟨h1, h2, h3⟩ := key
  unfold fop
  split
  · rename_i x hx; exact absurd hx (h3 x)
  · rw [h2, h1]
theorem newOf_local {all : List Oper} {r : Option (Nat × AO × (Nat → AV))} (ha : ∀ t ∈ namesOf all o, s1.get t = s.get t) (h : newOf T A o s.eval = r) : newOf T A o s1.eval = r := by
  have he := eval_agree ha
  rw [← h]
  unfold newOf
  cases hop : o.op with
  | makeSlice t l c =>
    have h1 := he l (by rw [hop]; simp [Op.operands])
    have h2 := he c (by rw [hop]; simp [Op.operands])
    simp only [h1, h2]
  | _ => rfl
/-- What the machine makes of it: a block that nobody knows. -/
theorem newOf_run {d : Nat} {oo : AO} {v : Nat → AV} (hT : T.Ok P) (h : newOf T A o s.eval = some (d, oo, v)) (g : Good P N F w0 gb0 H0 s a w gb) :
    ∃ (val : Value) (ob : Obj) (size : Nat), (execOp a.eval o).run P w = .ok (.value val) (w.alloc ob) ∧
      ∀ (w' : World) (W : Nat → Nat → Prop) (gb' : Gb) (id : Nat), w'.heap[w.heap.size]? = some ob → gb' id = some (w.heap.size, size) → ObjRep P w' W gb' w.heap.size size oo ∧ Rep w' W gb' (v id) val := by
  unfold newOf at h
  split at h
  · rename_i e hop
    split at h
    · rename_i d' z hd hz
      split at h
      · rename_i h1
        simp only [Option.some.injEq, Prod.mk.injEq] at h
        obtain ⟨rfl, rfl, rfl⟩ := h
        have hzz : (P.info? e).map (·.zero) = some (some z) := hT.zeros _ (lk?_mem hz)
        refine ⟨.pointer (some ⟨w.heap.size, 0, none⟩), .cells z.cells e, z.cells.size, ?_, fun w' W gb' id hb hg => ⟨⟨z.cells, e, (0, 0), hb, rfl, rfl, repL_lits h1⟩, Rep.ptr _ 0 _ _ hg⟩⟩
        unfold execOp
        simp only [hop]
        rw [Sem.run_bind]
        simp only [Instr.alloc, Sem.run_bind, run_zero_some hzz, Result.andThen_ok]
        rfl
      · cases h
    · cases h
  · rename_i t l c hop
    split at h
    · rename_i d' I k1 lv k2 cv hd hI hl hc
      split at h
      · rename_i hb
        obtain ⟨⟨b1, b2, b3'⟩, hone⟩ := hb
        have b3 : I.bytes * cv ≤ 281474976710656 := by
          cases hcp : A.caps.elem d' with
          | true => rw [hcp] at b3'; exact b3'
          | false => rw [hcp] at b3'; exact Int.le_trans b3' (by decide)
        obtain ⟨hu, ⟨i, hi, hz, hsi, hby⟩, hzs, hsz, hbp⟩ := sls_ok hT hI
        have h63 : cv ≤ 9223372036854775807 := by
          have : (1 : Int) * cv ≤ I.bytes * cv := Int.mul_le_mul_of_nonneg_right (by omega) (by omega)
          omega
        have hcm : cv.toNat ≤ maxLen := by simp only [maxLen]; omega
        have hrun := run_make (P := P) w t I.e i I.zero hu hi hz k1 k2 lv cv b1 b2 (by rw [hby]; omega) h63
        obtain ⟨m, hm⟩ : ∃ m, lv.toNat = m := ⟨_, rfl⟩
        obtain ⟨k, hk⟩ : ∃ k, cv.toNat = k := ⟨_, rfl⟩
        have hmk : m ≤ k := by omega
        rw [hm, hk, hsi] at hrun
        have hsz' : (madeCells I.zero.cells (k * I.size)).size = k * I.size := size_madeCells _ _
        have hcells : (madeCells I.zero.cells (k * I.size)).toList = (List.replicate k I.zero.cells.toList).flatten := by
          unfold madeCells
          rw [← hzs]
          exact zeros_mod (by omega) k
        have hzl : (zeroA I.zero).length = I.size := by unfold zeroA; rw [List.length_map, Array.length_toList]; exact hzs
        have hfl : ∀ m, (List.replicate m (zeroA I.zero)).flatten.length = m * I.size := fun m => by
          rw [flatten_len (sz := I.size) (fun it hit => by rw [List.eq_of_mem_replicate hit]; exact hzl), List.length_replicate]
        have hrow : ∀ (m : Nat), m ≤ k → ∀ (w : World) (W : Nat → Nat → Prop) (gb : Gb), RepL w W gb (List.replicate m (zeroA I.zero)).flatten ((madeCells I.zero.cells (k * I.size)).toList.take (List.replicate m (zeroA I.zero)).flatten.length) := by
          intro m hmk w W gb
          have e1 : (madeCells I.zero.cells (k * I.size)).toList.take (m * I.size) = (List.replicate m I.zero.cells.toList).flatten := by
            rw [hcells]
            have : List.replicate k I.zero.cells.toList = List.replicate m I.zero.cells.toList ++ List.replicate (k - m) I.zero.cells.toList := by
              rw [List.replicate_append_replicate]; congr 1; omega
            rw [this, List.flatten_append]
            exact List.take_left' (by rw [List.length_flatten]; simp [hzs])
          rw [hfl, e1]
          clear e1 hmk
          induction m with
          | zero => simpa using RepL.nil
          | succ m ih =>
            rw [List.replicate_succ, List.replicate_succ, List.flatten_cons, List.flatten_cons]
            exact (repL_lits hone).append ih
        have hrunv : (execOp a.eval o).run P w = .ok (.value (.slice (some ⟨w.heap.size, 0, none⟩) m k)) (w.alloc (.cells (madeCells I.zero.cells (k * I.size)) I.e)) := by
          unfold execOp
          simp only [hop, rep_int (g.eval l) hl, rep_int (g.eval c) hc]
          rw [Sem.run_bind, hrun]
          rfl
        cases hcp : A.caps.elem d' with
        | false =>
          rw [hcp] at h
          simp only [cond_false, Option.some.injEq, Prod.mk.injEq] at h
          obtain ⟨rfl, rfl, rfl⟩ := h
          refine ⟨.slice (some ⟨w.heap.size, 0, none⟩) m k, .cells (madeCells I.zero.cells (k * I.size)) I.e, (madeCells I.zero.cells (k * I.size)).size, hrunv, fun w' W gb' id hb hg => ⟨?_, ?_⟩⟩
          · rw [hm]
            exact ⟨by rw [szOf_sl hT hI]; exact fun it hit => by rw [List.eq_of_mem_replicate hit]; exact hzl, _, (0, 0), hb, cold0 _, rfl, by rw [hfl, hsz']; exact Nat.mul_le_mul_right _ hmk, hrow m hmk _ _ _⟩
          · have := Rep.rw (w := w') (W := W) (gb := gb') id I.size 0 m _ _ k hg (by rw [hsz']; simp) hmk (by rw [← hk]; exact hcm)
            rw [hm]
            rwa [Nat.zero_mul] at this
        | true =>
          rw [hcp] at h
          simp only [cond_true, Option.some.injEq, Prod.mk.injEq] at h
          obtain ⟨rfl, rfl, rfl⟩ := h
          refine ⟨.slice (some ⟨w.heap.size, 0, none⟩) m k, .cells (madeCells I.zero.cells (k * I.size)) I.e, (madeCells I.zero.cells (k * I.size)).size, hrunv, fun w' W gb' id hb hg => ⟨?_, ?_⟩⟩
          · rw [hk]
            exact ⟨by rw [szOf_sl hT hI]; exact fun it hit => by rw [List.eq_of_mem_replicate hit]; exact hzl, _, (0, 0), hb, cold0 _, rfl, by rw [hfl, hsz']; exact Nat.le_refl _, hrow k (Nat.le_refl _) _ _ _⟩
          · rw [hm, hk]
            exact Rep.rc (w := w') (W := W) (gb := gb') id I.size m k _ _ hg (by rw [hsz']; exact Nat.le_refl _) hmk (by rw [← hk]; exact hcm)
      · cases h
    · cases h
  · rename_i t m parts hop
    split at h
    · rename_i d' I hd hI hp
      simp only [Option.some.injEq, Prod.mk.injEq] at h
      obtain ⟨rfl, rfl, rfl⟩ := h
      obtain ⟨hu, ⟨i, hi, hz, hsi, hby⟩, hzs, hsz, hbp⟩ := sls_ok hT hI
      have hp0 : parts = #[] := Array.toList_inj.1 hp
      subst hp0
      refine ⟨.slice (some ⟨w.heap.size, 0, none⟩) 0 0, .cells #[] I.e, 0, ?_, fun w' W gb' id hb hg => ⟨⟨fun it hit => absurd hit List.not_mem_nil, #[], (0, 0), hb, cold0 _, rfl, Nat.le_refl _, RepL.nil⟩, Rep.rwz id I.size 0 0 _ _ hg⟩⟩
      unfold execOp
      simp only [hop]
      rw [Sem.run_bind]
      have : (Instr.buildSlice t 0 ((#[] : Array (Nat × Operand)).map fun (i, x) => (i, a.eval x))).run P w = .ok (.slice (some ⟨w.heap.size, 0, none⟩) 0 0) (w.alloc (.cells #[] I.e)) := by
        simp [Instr.buildSlice, run_underlying hu, sizeOf, typeInfo, hi, Instr.fill, newRow, Array.range_zero']
      rw [this]
      rfl
    · cases h
  · cases h
theorem Good.base (g : Good P N F w0 gb0 H0 s a w gb) : Good P N F w gb s.heap s a w gb :=
  ⟨Kept.refl _ _ _, Ext.refl _, g.ok, fun _ _ _ h => h, fun _ _ h => h, g.size, g.defers, g.slots⟩
theorem Good.rebase (g : Good P N F w0 gb0 H0 s a w gb) (g' : Good P N F w gb s.heap s' a' w' gb') : Good P N F w0 gb0 H0 s' a' w' gb' :=
  ⟨g.kept.trans g'.kept g.x0 g.wr0, g.ext.trans g'.ext, g'.ok, fun b o hb h => g.wr0 b o hb (g'.wr0 b o (Nat.lt_of_lt_of_le hb g.kept.size) h), fun b hb h => g.x0 b hb (g'.x0 b (Nat.lt_of_lt_of_le hb g.kept.size) h), g'.size, g'.defers, g'.slots⟩
theorem Good.reslot (g : Good P N F w0 gb0 H0 s a w gb) (hh : s'.heap = s.heap) (hn : s'.next = s.next) (hs : ∀ t, Rep w (Wr F gb s.heap) gb (s'.get t) (a.tmps.getD t undef)) : Good P N F w0 gb0 H0 s' a w gb :=
  ⟨g.kept, g.ext, by rw [hh, hn]; exact g.ok, by rw [hh]; exact g.wr0, by rw [hh]; exact g.x0, g.size, g.defers, by rw [hh]; exact hs⟩
/-- A block comes that nobody knows: it counts as written in by others. -/
theorem Good.early {d : Nat} {v : Value} (g : Good P N F w0 gb0 H0 s a w gb) (hd : d < N) (hb : Below w.heap.size w w') (hs : w.heap.size < w'.heap.size) (hF : ∀ b o, F' b o ↔ F b o ∨ b = w.heap.size) :
    Good P N F' w0 gb0 H0 (s.put (some d) (.lit v)) (a.put (some d) v) w' gb := by
  have hk : ∀ b o u, ¬ Wr F gb s.heap b o → w.cell? ⟨b, o, none⟩ = some u → w'.cell? ⟨b, o, none⟩ = some u ∧ ¬ Wr F' gb s.heap b o := fun b o u hn hc => ⟨(hb.cell (p := ⟨_, _, none⟩) (cell_lt hc)).trans hc, fun hw => by
    have hlt := cell_lt hc
    rcases hw with hw | hw
    · rcases (hF b o).1 hw with h | h
      · exact hn (.inl h)
      · omega
    · exact hn (.inr hw)⟩
  have g1 : Good P N F' w0 gb0 H0 s a w' gb := by
    refine ⟨g.kept.trans (.of_below (X := fun _ => False) (W := fun _ _ => False) hb) (fun _ _ hx => hx.elim) (fun _ _ _ hx => hx.elim), g.ext, ⟨fun id b t h => ?_, g.ok.new, fun id o ho => ?_, g.ok.one, fun b o h => ?_, fun b o h hx => ?_⟩, g.wr0, g.x0, g.size, g.defers, fun t => (g.slots t).keep hk (Ext.refl _)⟩
    · have := g.ok.lt id b t h; omega
    · rcases g.ok.live id o ho with ⟨b, t, hg, hr⟩ | h
      · exact .inl ⟨b, t, hg, hr.keep (hb.block b (g.ok.lt id b t hg).2) hk (Ext.refl _)⟩
      · exact .inr h
    · rcases (hF b o).1 h with h | h
      · exact Nat.lt_of_lt_of_le (g.ok.FB b o h) hb.size
      · omega
    · rcases (hF b o).1 h with h | h
      · exact g.ok.FX b o h hx
      · obtain ⟨id, t, hg, _⟩ := hx
        have := (g.ok.lt id b t hg).2
        omega
  exact g1.put (fun k hk => by injection hk with hk; omega) (.lit v)
/-- Its turn: the block gets a number. -/
theorem Good.name {oo : AO} {gg size : Nat} (g : Good P N F' w0 gb0 H0 s a w gb) (hF : ∀ b o, F' b o ↔ F b o ∨ b = gg) (hn : ∀ o, ¬ F gg o) (h0 : w0.heap.size ≤ gg)
    (hr : ObjRep P w (Wr F (gbn gb s.next (gg, size)) (upd s.heap s.next (some oo))) (gbn gb s.next (gg, size)) gg size oo) : Good P N F w0 gb0 H0 (s.fresh oo) a w (gbn gb s.next (gg, size)) := by
  have hlt : gg < w.heap.size := g.ok.FB gg 0 ((hF gg 0).2 (.inr rfl))
  have hX : ¬ Xh gb s.heap gg := g.ok.FX gg 0 ((hF gg 0).2 (.inr rfl))
  have hat : ∀ {id b t}, gbn gb s.next (gg, size) id = some (b, t) → (id = s.next ∧ b = gg ∧ t = size) ∨ (id ≠ s.next ∧ gb id = some (b, t)) := fun {id b t} hg => by
    unfold gbn at hg
    split at hg
    · injection hg with hg
      injection hg with e1 e2
      exact .inl ⟨by assumption, e1.symm, e2.symm⟩
    · exact .inr ⟨by assumption, hg⟩
  have hwh : ∀ b o, Wh (gbn gb s.next (gg, size)) (upd s.heap s.next (some oo)) b o → b = gg ∨ Wh gb s.heap b o := by
    rintro b o ⟨id, t, hg, hw⟩
    rcases hat hg with ⟨_, h, _⟩ | ⟨h1, h2⟩
    · exact .inl h
    · rw [upd_other (fun e => h1 e.symm)] at hw
      exact .inr ⟨id, t, h2, hw⟩
  have hxh : ∀ b, Xh (gbn gb s.next (gg, size)) (upd s.heap s.next (some oo)) b → b = gg ∨ Xh gb s.heap b := by
    rintro b ⟨id, t, hg, hw⟩
    rcases hat hg with ⟨_, h, _⟩ | ⟨h1, h2⟩
    · exact .inl h
    · rw [upd_other (fun e => h1 e.symm)] at hw
      exact .inr ⟨id, t, h2, hw⟩
  have hk : ∀ b o u, ¬ Wr F' gb s.heap b o → w.cell? ⟨b, o, none⟩ = some u → w.cell? ⟨b, o, none⟩ = some u ∧ ¬ Wr F (gbn gb s.next (gg, size)) (upd s.heap s.next (some oo)) b o := fun b o u h hc => ⟨hc, fun hw => by
    rcases hw with hw | hw
    · exact h (.inl ((hF b o).2 (.inl hw)))
    · rcases hwh b o hw with hw | hw
      · exact h (.inl ((hF b o).2 (.inr hw)))
      · exact h (.inr hw)⟩
  have hext := gbn_ext g.ok (gg, size)
  refine ⟨g.kept, g.ext.trans hext, ⟨fun id b t hg => ?_, fun id hid => ?_, fun id o ho => ?_, fun i j b t t' hi hj hxi hxj => ?_, fun b o hf => g.ok.FB b o ((hF b o).2 (.inl hf)), fun b o hf hx => ?_⟩, fun b o hb hw => ?_, fun b hb hx => ?_, g.size, g.defers, fun t => (g.slots t).keep hk hext⟩
  · show id < s.next + 1 ∧ _
    rcases hat hg with ⟨h1, h2, _⟩ | ⟨_, hg⟩
    · omega
    · have := g.ok.lt id b t hg; omega
  · have hid' : s.next + 1 ≤ id := hid
    show upd s.heap s.next (some oo) id = none
    rw [upd_other (by omega)]
    exact g.ok.new id (by omega)
  · have ho' : upd s.heap s.next (some oo) id = some o := ho
    by_cases hid : id = s.next
    · subst hid
      rw [upd_same] at ho'
      injection ho' with ho'
      subst ho'
      exact .inl ⟨gg, size, gbn_at gb s.next _, hr⟩
    · rw [upd_other (fun e => hid e.symm)] at ho'
      rcases g.ok.live id o ho' with ⟨b, t, hg, hrr⟩ | ⟨hg, he⟩
      · exact .inl ⟨b, t, hext _ _ hg, hrr.keep rfl hk hext⟩
      · exact .inr ⟨by unfold gbn; rw [if_neg hid]; exact hg, he⟩
  · have hxi' : exO (upd s.heap s.next (some oo) i) := hxi
    have hxj' : exO (upd s.heap s.next (some oo) j) := hxj
    rcases hat hi with ⟨h1, h2, _⟩ | ⟨h1, h2⟩ <;> rcases hat hj with ⟨h3, h4, _⟩ | ⟨h3, h4⟩
    · omega
    · rw [upd_other (fun e => h3 e.symm)] at hxj'
      exact absurd ⟨j, t', by rw [← h2]; exact h4, hxj'⟩ hX
    · rw [upd_other (fun e => h1 e.symm)] at hxi'
      exact absurd ⟨i, t, by rw [← h4]; exact h2, hxi'⟩ hX
    · rw [upd_other (fun e => h1 e.symm)] at hxi'
      rw [upd_other (fun e => h3 e.symm)] at hxj'
      exact g.ok.one i j b t t' h2 h4 hxi' hxj'
  · rcases hxh b hx with h | h
    · subst h; exact hn o hf
    · exact g.ok.FX b o ((hF b o).2 (.inl hf)) h
  · rcases hwh b o hw with h | h
    · omega
    · exact g.wr0 b o hb h
  · rcases hxh b hx with h | h
    · omega
    · exact g.x0 b hb h
/-- A step leaves the blocks alone that others write in. -/
theorem Good.stay (g : Good P N F w0 gb0 H0 s a w gb) (g' : Good P N F w gb s.heap s' a' w' gb') {b o : Nat} (hf : F b o) : w'.heap[b]? = w.heap[b]? :=
  g'.kept.block b (g.ok.FB b o hf) (g.ok.FX b o hf)
end
end Go.Proofs.Ytheanmfdfoefoaa.Hv
set_option linter.unusedVariables false
set_option linter.unusedSimpArgs false
namespace Go.Proofs.Ytheanmfdfoefoaa.Hv
open Go Go.RowKit

def predsOf (o : Oper) : List Nat := o.after.toList.filterMap fun e => bif Region.binds .any e then some e.on else none
def chainOk (all : List Oper) (ps : List Nat) : List Nat → List Nat → Bool
  | [], _ => true
  | z :: r, acc => (ps.elem z || acc.any fun z' => match all[z']? with | some o' => (predsOf o').elem z | none => false) && chainOk all ps r (z :: acc)
/-- An allocation that may be done before its turn. -/
def isE (T : Tbl) (all : List Oper) (o : Oper) : Bool := o.guard.isNone && (isNew o && (predsOf o).all fun j => match all[j]? with | some oj => isR T oj | none => false)
/-- One that is sure to go well. -/
def stE (T : Tbl) (o : Oper) : Bool := match o.op with
  | .alloc e => match o.dst, lk? T.zeros e with
    | some _, some z => (zeroA z).all AV.isOne
    | _, _ => false
  | .buildSlice t n parts => match o.dst, lk? T.sls t, n, parts.toList with
    | some _, some _, 0, [] => true
    | _, _, _, _ => false
  | _ => false
def okStep (T : Tbl) (all : List Oper) (pre ann : List Nat) (i : Nat) (pins done post : List Nat) : Bool :=
  match all[i]? with
  | none => false
  | some o => (!pre.elem i && (predsOf o).all (fun j => pre.elem j && Nat.blt j i)) &&
    (bif isR T o then (match o.dst with | some d => !(namesOf all o).elem d | none => false) && (pins.all fun k => match all[k]? with | some ok => (predsOf ok).all fun j => (i :: pre).elem j | none => false) else
      post.all (fun k => match all[k]? with | some ok => ((predsOf ok).any fun j => !pre.elem j && (Nat.beq j i || match all[j]? with | some oj => !isE T all oj | none => false)) || (isE T all ok && (stE T ok || ann.elem k)) | none => false) && (chainOk all (predsOf o) done [] &&
      pre.all fun k => pins.elem k || done.elem k || match all[k]? with | some ok => !(isR T ok && heapR ok) | none => true))
def annN (T : Tbl) (all : List Oper) (i : Nat) (pins ann : List Nat) : List Nat := match all[i]? with
  | some o => bif isR T o then pins ++ ann else ann
  | none => ann
def okSch (T : Tbl) (all : List Oper) : List Nat → List Nat → List (Nat × List Nat × List Nat) → Bool
  | _, _, [] => true
  | pre, ann, (i, pins, done) :: r => okStep T all pre ann i pins done (r.map (·.1)) && okSch T all (i :: pre) (annN T all i pins ann) r
def dstIs (o : Oper) (t : Nat) : Bool := match o.dst with | some d => Nat.beq d t | none => false
def okReg (T : Tbl) (all : List Oper) (sch : List (Nat × List Nat × List Nat)) : Bool :=
  okSch T all [] [] sch && ((List.range all.length).all (fun i => (sch.map (·.1)).elem i) && all.zipIdx.all fun p => all.zipIdx.all fun q => Nat.beq p.2 q.2 || match p.1.dst with
    | none => true
    | some d => !dstIs q.1 d && (!(namesOf all q.1).elem d || (predsOf q.1).elem p.2 || (!isR T p.1 && (predsOf p.1).elem q.2)))
structure RegOk (T : Tbl) (all : List Oper) : Prop where
  one : ∀ (i j : Nat) (o o' : Oper) (d : Nat), all[i]? = some o → all[j]? = some o' → o.dst = some d → o'.dst = some d → i = j
  dep : ∀ (i j : Nat) (o o' : Oper) (d : Nat), all[i]? = some o → all[j]? = some o' → i ≠ j → o.dst = some d → d ∈ namesOf all o' → i ∈ predsOf o' ∨ (isR T o = false ∧ j ∈ predsOf o)
theorem okReg_spec {T : Tbl} {all : List Oper} {sch : List (Nat × List Nat × List Nat)} (h : okReg T all sch = true) : okSch T all [] [] sch = true ∧ (∀ i, i < all.length → i ∈ sch.map (·.1)) ∧ RegOk T all := by
  unfold okReg at h
  rw [Bool.and_eq_true, Bool.and_eq_true] at h
  obtain ⟨h1, h2, h3⟩ := h
  have hz : ∀ {i : Nat} {o : Oper}, all[i]? = some o → (o, i) ∈ all.zipIdx := fun {i o} hi => by rw [List.mem_zipIdx_iff_getElem?]; exact hi
  rw [List.all_eq_true] at h2 h3
  have key : ∀ (i j : Nat) (o o' : Oper) (d : Nat), all[i]? = some o → all[j]? = some o' → i ≠ j → o.dst = some d → dstIs o' d = false ∧ (d ∈ namesOf all o' → i ∈ predsOf o' ∨ (isR T o = false ∧ j ∈ predsOf o)) := by
    intro i j o o' d hi hj hij hd
    have h4 := List.all_eq_true.1 (h3 _ (hz hi)) _ (hz hj)
    simp only [hd, Bool.or_eq_true, Bool.and_eq_true, Bool.not_eq_true'] at h4
    rcases h4 with h4 | ⟨h4, h5⟩
    · exact absurd (Nat.eq_of_beq_eq_true h4) hij
    · refine ⟨h4, fun hn => ?_⟩
      rcases h5 with (h5 | h5) | ⟨h5, h6⟩
      · rw [List.elem_eq_true_of_mem hn] at h5; cases h5
      · exact .inl (List.elem_iff.1 h5)
      · exact .inr ⟨h5, List.elem_iff.1 h6⟩
  refine ⟨h1, fun i hi => List.elem_iff.1 (h2 i (by simpa using hi)), fun i j o o' d hi hj hd hd' => ?_, fun i j o o' d hi hj hij hd hn => (key i j o o' d hi hj hij hd).2 hn⟩
  rcases Nat.decEq i j with hne | he
  · have := (key i j o o' d hi hj hne hd).1
    simp [dstIs, hd'] at this
  · exact he
theorem mem_preds {o : Oper} {j : Nat} : j ∈ predsOf o ↔ ∃ e ∈ o.after, e.on = j ∧ Region.binds .any e = true := by
  unfold predsOf
  rw [List.mem_filterMap]
  constructor
  · rintro ⟨e, he, h⟩
    cases hb : Region.binds .any e with
    | true => rw [hb] at h; simp only [cond_true, Option.some.injEq] at h; exact ⟨e, by simpa using he, h, hb⟩
    | false => rw [hb] at h; cases h
  · rintro ⟨e, he, h, hb⟩
    exact ⟨e, by simpa using he, by rw [hb, h]; rfl⟩
def hide (s : AS) (l : List Nat) : AS := ⟨l.map (fun t => (t, .dead)) ++ s.env, s.heap, s.next⟩
theorem get_hide (s : AS) (l : List Nat) (t : Nat) : (hide s l).get t = if t ∈ l then .dead else s.get t := by
  unfold hide AS.get
  induction l with
  | nil => simp
  | cons x l ih =>
    simp only [List.map_cons, List.cons_append, lkp]
    by_cases hx : x = t
    · subst hx; simp
    · have : Nat.beq x t = false := by rw [← Bool.not_eq_true]; intro h; exact hx (Nat.eq_of_beq_eq_true h)
      rw [this, cond_false, ih]
      have hx' : ¬ t = x := fun e => hx e.symm
      simp [hx']
def hid (all : List Oper) (listed : Array Bool) (pre : List Nat) : List Nat := (pre.filter fun i => !listed.getD i false).filterMap fun i => (all[i]?).bind (·.dst)
theorem mem_hid {all : List Oper} {listed : Array Bool} {pre : List Nat} {t : Nat} : t ∈ hid all listed pre ↔ ∃ i o, i ∈ pre ∧ listed.getD i false = false ∧ all[i]? = some o ∧ o.dst = some t := by
  unfold hid
  rw [List.mem_filterMap]
  constructor
  · rintro ⟨i, hi, h⟩
    rw [List.mem_filter] at hi
    rw [Option.bind_eq_some_iff] at h
    obtain ⟨o, ho, hd⟩ := h
    exact ⟨i, o, hi.1, by simpa using hi.2, ho, hd⟩
  · rintro ⟨i, o, hi, hl, ho, hd⟩
    exact ⟨i, by rw [List.mem_filter]; exact ⟨hi, by rw [hl]; rfl⟩, by rw [ho]; exact hd⟩
def unl (n : Nat) (listed : Array Bool) : Nat := ((List.range n).filter fun i => !listed.getD i false).length
theorem getD_true {listed : Array Bool} {i : Nat} (h : i < listed.size) : listed.getD i true = listed.getD i false := by
  simp [Array.getD_eq_getD_getElem?, h]
theorem getD_set' {listed : Array Bool} {i j : Nat} (h : i < listed.size) : (listed.setIfInBounds i true).getD j false = if j = i then true else listed.getD j false := by
  by_cases hj : j = i
  · subst hj; simp [h]
  · rw [if_neg hj, getD_set_ne false (fun e => hj e.symm)]
theorem filter_lt {α : Type} {p q : α → Bool} {l : List α} {x : α} (hx : x ∈ l) (h1 : p x = true) (h2 : q x = false) (h : ∀ y, q y = true → p y = true) : (l.filter q).length < (l.filter p).length := by
  induction l with
  | nil => cases hx
  | cons y l ih =>
    have hle : (l.filter q).length ≤ (l.filter p).length := by
      clear ih hx
      induction l with
      | nil => simp
      | cons z l ih2 =>
        simp only [List.filter_cons]
        cases hq : q z with
        | true => rw [h z hq]; simp; exact ih2
        | false => cases hp : p z <;> simp <;> omega
    simp only [List.filter_cons]
    rcases List.mem_cons.1 hx with rfl | hx
    · rw [h1, h2]; simp; omega
    · have := ih hx
      cases hq : q y with
      | true => rw [h y hq]; simp; exact this
      | false => cases hp : p y <;> simp <;> omega
section
variable {P : Program} {T : Tbl} {A : Vis} {N : Nat} {F : Nat → Nat → Prop} {w0 w w' : World} {gb0 gb gb' : Gb} {H0 H H' : Hp} {s s' s1 : AS} {a : Act} {n n' : Nat} {o : Oper} {K : Act → World → Prop} {Q : Exit → Act → World → Prop}
theorem callee_agree {c : Call} (h : ∀ x ∈ c.operands, s1.eval x = s.eval x) : callee? s1 c = callee? s c := by
  have hargs : ∀ x ∈ c.args.toList, s1.eval x = s.eval x := fun x hx => h x (by
    unfold Call.operands
    rw [Array.mem_append]
    exact .inr (by simpa using hx))
  unfold callee?
  cases hc : c.callee with
  | value x =>
    have hx := h x (by unfold Call.operands; rw [hc]; simp)
    simp only [hx, List.map_congr_left hargs]
  | _ => rfl
/-- What an operation makes of the heap does not ask for other slots. -/
theorem geff_agree {all : List Oper} {KK : Hp → Nat → AV → Prop} (ha : ∀ t ∈ namesOf all o, s1.get t = s.get t) (hh : s1.heap = s.heap) (hn : s1.next = s.next) (h : geff P T A all o s KK) : geff P T A all o s1 KK := by
  have he := eval_agree ha
  unfold geff at h ⊢
  rw [gsem_agree ha]
  split at h
  · obtain ⟨e, H, n⟩ := s
    obtain ⟨e1, H1, n1⟩ := s1
    simp only at hh hn
    subst hh hn
    have hf := fop_re (T := T) (A := A) (o := o) (H := H1) (n := n1) (e := e) (e1 := e1) he
    unfold eff1 at h ⊢
    rw [hf]
    cases hr : fop T A o ⟨e, H1, n1⟩ with
    | some r =>
      rw [hr] at h
      simp only [Option.map_some] at h ⊢
      have h1 : (AS.re e1 o r).heap = r.heap := by unfold AS.re; cases o.dst <;> rfl
      have h2 : (AS.re e1 o r).next = r.next := by unfold AS.re; cases o.dst <;> rfl
      have h3 : dstD o (AS.re e1 o r) = dstD o r := by
        unfold AS.re
        unfold dstD
        cases hd : o.dst with
        | none => rfl
        | some d => simp only; rw [get_put, if_pos rfl]
      rw [h1, h2, h3]; exact h
    | none =>
      rw [hr] at h
      simp only [Option.map_none] at h ⊢
      cases hop : o.op with
      | call c =>
        rw [hop] at h he
        simp only at h ⊢
        rw [callee_agree he]
        exact h
      | _ => rw [hop] at h; exact h
  · rw [hh, hn]; exact h
  · exact h.elim
theorem fop_env {r : AS} (h : fop T A o s = some r) : ∀ t, r.get t = ((⟨s.env, r.heap, r.next⟩ : AS).put o.dst (dstD o r)).get t := by
  obtain ⟨e, H, n⟩ := s
  have := fop_re (T := T) (A := A) (o := o) (H := H) (n := n) (e := e) (e1 := e) (fun _ _ => rfl)
  rw [h] at this
  simp only [Option.map_some, Option.some.injEq] at this
  intro t
  have h2 : r.get t = (AS.re e o r).get t := by rw [← this]
  exact h2
theorem geff_sound {all : Array Oper} {KK : Hp → Nat → AV → Prop} {i : Nat} {next : Act → World → Prop} (hT : T.Ok P) (ho : all[i]? = some o) (hd : ∀ k, o.dst = some k → k < N) (h : geff P T A all.toList o s KK) (hr : R P N F w0 gb0 H0 s a w)
    (hK : ∀ H' n' v, KK H' n' v → ∀ a' w', R P N F w0 gb0 H0 ((⟨s.env, H', n'⟩ : AS).put o.dst v) a' w' → next a' w') : wpOp P all Q i next a w := by
  obtain ⟨gb, g⟩ := hr
  unfold geff at h
  unfold wpOp
  simp only [ho]
  split at h
  · rename_i hg
    rw [gsem_ok g hg, if_pos rfl]
    refine .inl ?_
    unfold eff1 at h
    cases hf : fop T A o s with
    | some r =>
      rw [hf] at h
      refine fop_sound hT hf g hd fun a' w' hr' => hK _ _ _ h a' w' (hr'.ext ?_ ?_ fun t => .inl (fop_env hf t).symm)
      · rw [put_heap]
      · rw [put_next]
    | none =>
      rw [hf] at h
      simp only at h
      split at h
      · rename_i c hop
        split at h
        · rename_i f as hc
          rcases h with ⟨res, hA, h⟩ | ⟨Post, hA, h⟩
          · exact s_call hop hc hA g hd fun a' w' hr' => hK _ _ _ h a' w' hr'
          · exact s_hcall hop hc hA g hd fun res H' n' hp a' w' hr' => hK _ _ _ (h res H' n' hp) a' w' hr'
        · exact h.elim
      · exact h.elim
  · rename_i hg
    rw [gsem_ok g hg, if_neg (by simp)]
    exact hK _ _ _ h _ _ ⟨gb, g.put hd (x := .skip) (Rep.lit undef)⟩
  · exact h.elim
structure Pd where
  i : Nat
  d : Nat
  g : Nat
  size : Nat
  val : Value
  ob : Obj
  oo : AO
  v : Nat → AV
def Fp (F : Nat → Nat → Prop) (pend : List Pd) : Nat → Nat → Prop := fun b o => F b o ∨ ∃ p ∈ pend, p.g = b
theorem Fp_nil {F : Nat → Nat → Prop} : Fp F [] = F := by
  funext b o; simp [Fp]
def over (s : AS) (pend : List Pd) : AS := ⟨pend.map (fun p => (p.d, .lit p.val)) ++ s.env, s.heap, s.next⟩
theorem over_ne {s : AS} {pend : List Pd} {t : Nat} (h : ∀ p ∈ pend, p.d ≠ t) : (over s pend).get t = s.get t := by
  unfold over AS.get
  induction pend with
  | nil => rfl
  | cons p pend ih =>
    simp only [List.map_cons, List.cons_append, lkp]
    have hne : Nat.beq p.d t = false := by rw [← Bool.not_eq_true]; intro h'; exact h p List.mem_cons_self (Nat.eq_of_beq_eq_true h')
    rw [hne, cond_false]
    exact ih fun q hq => h q (List.mem_cons_of_mem _ hq)
theorem over_at {s : AS} {pend : List Pd} {p : Pd} (hp : p ∈ pend) (h : ∀ q ∈ pend, q.d = p.d → q = p) : (over s pend).get p.d = .lit p.val := by
  unfold over AS.get
  induction pend with
  | nil => cases hp
  | cons q pend ih =>
    simp only [List.map_cons, List.cons_append, lkp]
    cases hq : Nat.beq q.d p.d with
    | true => rw [cond_true, h q List.mem_cons_self (Nat.eq_of_beq_eq_true hq)]
    | false =>
      rw [cond_false]
      refine ih ?_ fun q' hq' => h q' (List.mem_cons_of_mem _ hq')
      rcases List.mem_cons.1 hp with rfl | hp
      · simp at hq
      · exact hp
theorem over_same {s s1 : AS} {pend : List Pd} {t : Nat} (h : ∃ p ∈ pend, p.d = t) : (over s pend).get t = (over s1 pend).get t := by
  unfold over AS.get
  induction pend with
  | nil => obtain ⟨p, hp, _⟩ := h; cases hp
  | cons q pend ih =>
    simp only [List.map_cons, List.cons_append, lkp]
    cases hq : Nat.beq q.d t with
    | true => rfl
    | false =>
      simp only [cond_false]
      obtain ⟨p, hp, hpt⟩ := h
      refine ih ⟨p, ?_, hpt⟩
      rcases List.mem_cons.1 hp with rfl | hp
      · rw [hpt] at hq; simp at hq
      · exact hp
theorem over_ext {s s1 : AS} {pend : List Pd} (h : ∀ t, (∀ p ∈ pend, p.d ≠ t) → s1.get t = s.get t ∨ s1.get t = .dead) (t : Nat) : (over s1 pend).get t = (over s pend).get t ∨ (over s1 pend).get t = .dead := by
  by_cases ht : ∃ p ∈ pend, p.d = t
  · exact .inl (over_same ht)
  · have ht' : ∀ p ∈ pend, p.d ≠ t := fun p hp e => ht ⟨p, hp, e⟩
    rw [over_ne ht', over_ne ht']
    exact h t ht'
theorem over_put {s : AS} {pend : List Pd} {d : Option Nat} {v : AV} (hd : ∀ k, d = some k → ∀ p ∈ pend, p.d ≠ k) (t : Nat) : (over (s.put d v) pend).get t = ((over s pend).put d v).get t := by
  rw [get_put]
  by_cases htd : d = some t
  · rw [if_pos htd, over_ne (hd t htd), get_put, if_pos htd]
  · rw [if_neg htd]
    by_cases ht : ∃ p ∈ pend, p.d = t
    · exact over_same ht
    · have ht' : ∀ p ∈ pend, p.d ≠ t := fun p hp e => ht ⟨p, hp, e⟩
      rw [over_ne ht', over_ne ht', get_put, if_neg htd]
theorem dval_keep {v : AV} (hT : T.Ok P) (h : dval T s o = some v) (g : Good P N F w0 gb0 H0 s a w gb) (hd : ∀ k, o.dst = some k → k < N) (hK : ∀ a' w', R P N F w0 gb0 H0 (s.put o.dst v) a' w' → (∀ b o, F b o → w'.heap[b]? = w.heap[b]?) → K a' w') : o.wp P a w K Q :=
  dval_sound hT h g.base hd fun a' w' ⟨gb', g'⟩ => hK a' w' ⟨gb', g.rebase g'⟩ fun _ _ hf => g.stay g' hf
theorem geff_keep {all : Array Oper} {KK : Hp → Nat → AV → Prop} {i : Nat} {next : Act → World → Prop} (hT : T.Ok P) (ho : all[i]? = some o) (hd : ∀ k, o.dst = some k → k < N) (h : geff P T A all.toList o s KK) (g : Good P N F w0 gb0 H0 s a w gb)
    (hK : ∀ H' n' v, KK H' n' v → ∀ a' w', R P N F w0 gb0 H0 ((⟨s.env, H', n'⟩ : AS).put o.dst v) a' w' → (∀ b o, F b o → w'.heap[b]? = w.heap[b]?) → next a' w') : wpOp P all Q i next a w :=
  geff_sound hT ho hd h ⟨gb, g.base⟩ fun H' n' v hk a' w' ⟨gb', g'⟩ => hK H' n' v hk a' w' ⟨gb', g.rebase g'⟩ fun _ _ hf => g.stay g' hf
structure PdOk (P : Program) (T : Tbl) (A : Vis) (F : Nat → Nat → Prop) (w0 : World) (ops : Array Oper) (pre : List Nat) (sfx : List (Nat × List Nat × List Nat)) (s : AS) (listed : Array Bool) (w : World) (p : Pd) : Prop where
  mem : p.i ∈ sfx.map (·.1)
  lst : listed.getD p.i false = true
  op : ∃ o, ops[p.i]? = some o ∧ isE T ops.toList o = true ∧ newOf T A o s.eval = some (p.d, p.oo, p.v) ∧ ∀ j ∈ predsOf o, j ∈ pre
  blk : w.heap[p.g]? = some p.ob
  rep : ∀ (w' : World) (W : Nat → Nat → Prop) (gb' : Gb) (id : Nat), w'.heap[p.g]? = some p.ob → gb' id = some (p.g, p.size) → ObjRep P w' W gb' p.g p.size p.oo ∧ Rep w' W gb' (p.v id) p.val
  new0 : w0.heap.size ≤ p.g
  notF : ∀ o, ¬ F p.g o
structure Inv (P : Program) (T : Tbl) (A : Vis) (N : Nat) (F : Nat → Nat → Prop) (w0 : World) (gb0 : Gb) (H0 : Hp) (ops : Array Oper) (Ka : AS → Prop) (pre ann : List Nat) (pend : List Pd) (sfx : List (Nat × List Nat × List Nat)) (s : AS) (listed : Array Bool) (a : Act) (w : World) : Prop where
  size : listed.size = ops.size
  all : ∀ i, i < ops.size → i ∈ pre ∨ i ∈ sfx.map (·.1)
  closed : ∀ i o, ops[i]? = some o → listed.getD i false = true → ∀ j ∈ predsOf o, listed.getD j false = true
  sfxU : ∀ x ∈ sfx, listed.getD x.1 false = false ∨ ∃ p ∈ pend, p.i = x.1
  preP : ∀ i ∈ pre, ∀ o, ops[i]? = some o → ∀ j ∈ predsOf o, j ∈ pre
  good : R P N (Fp F pend) w0 gb0 H0 (over (hide s (hid ops.toList listed pre)) pend) a w
  fwd : ∀ i ∈ pre, ∀ o, ops[i]? = some o → ∀ j ∈ predsOf o, j < i
  pin : ∀ i ∈ pre, listed.getD i false = false → ∃ o d, ops[i]? = some o ∧ isR T o = true ∧ o.dst = some d ∧ d ∉ namesOf ops.toList o ∧ gdval T ops.toList s o = some (s.get d)
  ok : okSch T ops.toList pre ann sfx = true
  walk : rkD P T A ops.toList sfx s Ka
  pds : ∀ p ∈ pend, PdOk P T A F w0 ops pre sfx s listed w p
  pendI : ∀ p ∈ pend, ∀ q ∈ pend, p.i = q.i ∨ p.g = q.g → p = q
  anns : ∀ k ∈ ann, k ∈ pre ∨ ∃ o, ops[k]? = some o ∧ (newOf T A o s.eval).isSome = true
  annP : ∀ k ∈ ann, ∀ o, ops[k]? = some o → ∀ j ∈ predsOf o, j ∈ pre
theorem isE_spec {all : List Oper} (h : isE T all o = true) : o.guard = none ∧ isNew o = true ∧ isR T o = false ∧ ∀ j ∈ predsOf o, ∃ oj, all[j]? = some oj ∧ isR T oj = true := by
  unfold isE at h
  simp only [Bool.and_eq_true] at h
  obtain ⟨h1, h2, h3⟩ := h
  refine ⟨by simpa using h1, h2, ?_, fun j hj => ?_⟩
  · unfold isNew at h2
    unfold isR
    split at h2
    · rename_i hop; rw [hop]
    · rename_i hop; rw [hop]
    · rename_i hop
      simp only [hop]
      split at h2
      · rename_i hp; rw [hp]
      · cases h2
    · cases h2
  · have := List.all_eq_true.1 h3 j hj
    cases ho : all[j]? with
    | none => rw [ho] at this; cases this
    | some oj => rw [ho] at this; exact ⟨oj, rfl, this⟩
theorem stE_some (h : stE T o = true) (ρ : Operand → AV) : (newOf T A o ρ).isSome = true := by
  unfold stE at h
  unfold newOf
  split at h
  · rename_i hop
    split at h
    · rename_i hd hz
      simp only [hop, hd, hz]
      rw [if_pos h]
      rfl
    · cases h
  · rename_i hop
    split at h
    · rename_i hd hI hp
      simp only [hop, hd, hI, hp]
      rfl
    · cases h
  · cases h
theorem mem_annOk {all : List Oper} {ks : List Nat} (h : annOk T A all s ks) : ∀ k ∈ ks, ∃ o, all[k]? = some o ∧ (newOf T A o s.eval).isSome = true := by
  induction ks with
  | nil => exact fun k hk => by cases hk
  | cons k ks ih =>
    unfold annOk at h
    obtain ⟨h1, h2⟩ := h
    have h3 := ih h2
    intro k' hk'
    rcases List.mem_cons.1 hk' with rfl | hk'
    · cases ho : all[k']? with
      | none => rw [ho] at h1; exact h1.elim
      | some o => rw [ho] at h1; exact ⟨o, rfl, h1⟩
    · exact h3 k' hk'
theorem split_annOk {all : List Oper} {ks : List Nat} {X : Prop} (h : match ks with
    | [] => X
    | k :: ks => annOk T A all s (k :: ks) ∧ X) : X ∧ ∀ k ∈ ks, ∃ o, all[k]? = some o ∧ (newOf T A o s.eval).isSome = true := by
  cases ks with
  | nil => exact ⟨h, fun k hk => by cases hk⟩
  | cons k ks => exact ⟨h.2, mem_annOk h.1⟩
theorem chain_mem {all : List Oper} {ps : List Nat} (Pd : Nat → Prop) (h0 : ∀ z ∈ ps, Pd z) (h1 : ∀ z' o', Pd z' → all[z']? = some o' → ∀ z ∈ predsOf o', Pd z) : ∀ (l acc : List Nat), (∀ z ∈ acc, Pd z) → chainOk all ps l acc = true → ∀ z ∈ l, Pd z := by
  intro l
  induction l with
  | nil => intro acc _ _ z hz; cases hz
  | cons x l ih =>
    intro acc hacc h z hz
    unfold chainOk at h
    rw [Bool.and_eq_true] at h
    have hx : Pd x := by
      rcases Bool.or_eq_true _ _ ▸ h.1 with h2 | h2
      · exact h0 x (List.elem_iff.1 h2)
      · rw [List.any_eq_true] at h2
        obtain ⟨z', hz', h3⟩ := h2
        cases ho : all[z']? with
        | none => rw [ho] at h3; cases h3
        | some o' => rw [ho] at h3; exact h1 z' o' (hacc z' hz') ho x (List.elem_iff.1 h3)
    rcases List.mem_cons.1 hz with rfl | hz
    · exact hx
    · exact ih (x :: acc) (fun y hy => (List.mem_cons.1 hy).elim (fun e => e ▸ hx) (hacc y)) h.2 z hz
theorem mem_pinsOk {all : List Oper} {pins : List Nat} (h : pinsOk T all s pins) {i : Nat} (hi : i ∈ pins) : ∃ o, all[i]? = some o ∧ gdval T all s o = some (dstD o s) := by
  induction pins with
  | nil => cases hi
  | cons x pins ih =>
    unfold pinsOk at h
    rcases List.mem_cons.1 hi with rfl | hi
    · cases ho : all[i]? with
      | none => rw [ho] at h; exact h.1.elim
      | some o => rw [ho] at h; exact ⟨o, rfl, h.1⟩
    · exact ih h.2 hi
theorem step_spec {all : List Oper} {pre ann : List Nat} {i : Nat} {pins done : List Nat} {r : List (Nat × List Nat × List Nat)} (h : okSch T all pre ann ((i, pins, done) :: r) = true) : ∃ o, all[i]? = some o ∧ i ∉ pre ∧ (∀ j ∈ predsOf o, j ∈ pre ∧ j < i) ∧ okSch T all (i :: pre) (annN T all i pins ann) r = true ∧
    (isR T o = true → (∃ d, o.dst = some d ∧ d ∉ namesOf all o) ∧ ∀ k ∈ pins, ∀ ok, all[k]? = some ok → ∀ j ∈ predsOf ok, j ∈ i :: pre) ∧
    (isR T o = false → (∀ k ∈ r.map (·.1), ∀ ok, all[k]? = some ok → (∃ j ∈ predsOf ok, j ∉ pre ∧ (j = i ∨ ∃ oj, all[j]? = some oj ∧ isE T all oj = false)) ∨ (isE T all ok = true ∧ (stE T ok = true ∨ k ∈ ann))) ∧ chainOk all (predsOf o) done [] = true ∧ ∀ k ∈ pre, k ∈ pins ∨ k ∈ done ∨ ∀ ok, all[k]? = some ok → isR T ok = true → heapR ok = false) := by
  unfold okSch at h
  rw [Bool.and_eq_true] at h
  obtain ⟨h1, h2⟩ := h
  unfold okStep at h1
  cases ho : all[i]? with
  | none => rw [ho] at h1; cases h1
  | some o =>
    rw [ho] at h1
    simp only [Bool.and_eq_true, Bool.not_eq_true'] at h1
    obtain ⟨⟨h3, h4⟩, h5⟩ := h1
    refine ⟨o, rfl, fun hm => (by rw [List.elem_eq_true_of_mem hm] at h3; cases h3), fun j hj => ?_, h2, fun hr => ?_, fun hr => ?_⟩
    · have := List.all_eq_true.1 h4 j hj
      rw [Bool.and_eq_true] at this
      exact ⟨List.elem_iff.1 this.1, Nat.le_of_ble_eq_true this.2⟩
    · rw [hr] at h5
      simp only [cond_true, Bool.and_eq_true] at h5
      obtain ⟨h5, h6⟩ := h5
      refine ⟨?_, fun k hk ok hok j hj => ?_⟩
      · cases hd : o.dst with
        | none => rw [hd] at h5; cases h5
        | some d =>
          simp only [hd] at h5
          refine ⟨d, rfl, fun hm => ?_⟩
          rw [List.elem_eq_true_of_mem hm] at h5; cases h5
      · have := List.all_eq_true.1 h6 k hk
        rw [hok] at this
        exact List.elem_iff.1 (List.all_eq_true.1 this j hj)
    · rw [hr] at h5
      simp only [cond_false, Bool.and_eq_true] at h5
      obtain ⟨h6, h7, h8⟩ := h5
      refine ⟨fun k hk ok hok => ?_, h7, fun k hk => ?_⟩
      · have := List.all_eq_true.1 h6 k hk
        rw [hok] at this
        simp only [List.any_eq_true, Bool.or_eq_true, Bool.and_eq_true] at this
        rcases this with ⟨j, hj, hj2⟩ | ⟨he, h⟩
        · refine .inl ⟨j, hj, fun hm => ?_, ?_⟩
          · rw [List.elem_eq_true_of_mem hm] at hj2; cases hj2.1
          · rcases hj2.2 with hj2 | hj2
            · exact .inl (Nat.eq_of_beq_eq_true hj2)
            · cases hoj : all[j]? with
              | none => rw [hoj] at hj2; cases hj2
              | some oj => rw [hoj] at hj2; exact .inr ⟨oj, rfl, by simpa using hj2⟩
        · exact .inr ⟨he, h.elim .inl fun h => .inr (List.elem_iff.1 h)⟩
      · have := List.all_eq_true.1 h8 k hk
        simp only [Bool.or_eq_true] at this
        rcases this with (h | h) | h
        · exact .inl (List.elem_iff.1 h)
        · exact .inr (.inl (List.elem_iff.1 h))
        · refine .inr (.inr fun ok hok hr => ?_)
          rw [hok] at h
          simp only [hr] at h
          simpa using h
theorem sfx_notin {all : List Oper} : ∀ (sfx : List (Nat × List Nat × List Nat)) (pre ann : List Nat), okSch T all pre ann sfx = true → ∀ x ∈ sfx.map (·.1), x ∉ pre := by
  intro sfx
  induction sfx with
  | nil => intro pre _ _ x hx; cases hx
  | cons y sfx ih2 =>
    intro pre ann hok x hx hm
    obtain ⟨i, pins, done⟩ := y
    obtain ⟨oi, _, hnp, _, hok', _⟩ := step_spec hok
    rw [List.map_cons] at hx
    rcases List.mem_cons.1 hx with rfl | hx
    · exact hnp hm
    · exact ih2 (i :: pre) _ hok' x hx (List.mem_cons_of_mem _ hm)
theorem at_list {ops : Array Oper} {i : Nat} {o : Oper} (h : ops[i]? = some o) : ops.toList[i]? = some o := by rw [Array.getElem?_toList]; exact h
section
variable {ops : Array Oper} {Ka : AS → Prop} {pre ann : List Nat} {pend : List Pd} {sfx r : List (Nat × List Nat × List Nat)} {listed : Array Bool} {i j : Nat} {pins done : List Nat}
theorem Inv.dI (hR : RegOk T ops.toList) (hI : Inv P T A N F w0 gb0 H0 ops Ka pre ann pend sfx s listed a w) {p q : Pd} (hp : p ∈ pend) (hq : q ∈ pend) (h : q.d = p.d) : q = p := by
  obtain ⟨op, h1, _, h3, _⟩ := (hI.pds p hp).op
  obtain ⟨oq, h4, _, h6, _⟩ := (hI.pds q hq).op
  exact hI.pendI q hq p hp (.inl (hR.one q.i p.i oq op q.d (at_list h4) (at_list h1) (newOf_op h6).1 (by rw [h]; exact (newOf_op h3).1)))
theorem Inv.pd (hR : RegOk T ops.toList) (hI : Inv P T A N F w0 gb0 H0 ops Ka pre ann pend sfx s listed a w) {p : Pd} (hp : p ∈ pend) (ho : ops[i]? = some o) {k : Nat} (hk : o.dst = some k) (hne : p.i ≠ i) : p.d ≠ k := by
  intro e
  obtain ⟨op, h1, _, h3, _⟩ := (hI.pds p hp).op
  exact hne (hR.one p.i i op o k (at_list h1) (at_list ho) (by rw [← e]; exact (newOf_op h3).1) hk)
/-- The names that an operation may look at are laid, where what it waits for is done. -/
theorem names_agree (hR : RegOk T ops.toList) (hI : Inv P T A N F w0 gb0 H0 ops Ka pre ann pend sfx s listed a w) (ho : ops[i]? = some o) (hp : ∀ j ∈ predsOf o, listed.getD j false = true) (hpp : ∀ j ∈ predsOf o, j ∈ pre) (hl0 : listed.getD i false = false) :
    ∀ t ∈ namesOf ops.toList o, (over (hide s (hid ops.toList listed pre)) pend).get t = s.get t := by
  intro t ht
  rw [over_ne, get_hide, if_neg]
  · intro hm
    obtain ⟨j, oj, hj, hl, hoj, hd⟩ := mem_hid.1 hm
    obtain ⟨oj', dj, hoj', hRj, hdj, hnj, _⟩ := hI.pin j hj hl
    have e : oj' = oj := by
      rw [Array.getElem?_toList, hoj'] at hoj
      injection hoj
    subst e
    by_cases hij : j = i
    · subst hij
      rw [hoj'] at ho
      injection ho with ho
      subst ho
      rw [hdj] at hd
      injection hd with hd
      subst hd
      exact hnj ht
    · rcases hR.dep j i oj' o t hoj (at_list ho) hij hd ht with h | ⟨h, _⟩
      · rw [hp j h] at hl; cases hl
      · rw [hRj] at h; cases h
  · intro p hpm e
    obtain ⟨op, h1, h2, h3, h4⟩ := (hI.pds p hpm).op
    have hne : p.i ≠ i := fun e => by have := (hI.pds p hpm).lst; rw [e, hl0] at this; cases this
    rcases hR.dep p.i i op o t (at_list h1) (at_list ho) hne (by rw [← e]; exact (newOf_op h3).1) ht with h | ⟨_, h⟩
    · exact sfx_notin sfx pre ann hI.ok _ (hI.pds p hpm).mem (hpp _ h)
    · have := hI.closed p.i op h1 (hI.pds p hpm).lst i h
      rw [hl0] at this; cases this
/-- What is still to be done does not name what is done now. -/
theorem new_stable (hR : RegOk T ops.toList) (ho : ops[i]? = some o) (hnp : i ∉ pre) (hpo : ∀ j ∈ predsOf o, j ∈ pre) {k : Nat} {ok : Oper} (hok : ops[k]? = some ok) (hpk : ∀ j ∈ predsOf ok, j ∈ pre) (hkp : k ∉ pre) (hki : k ≠ i) (hs : ∀ t, o.dst ≠ some t → s1.get t = s.get t) :
    ∀ t ∈ namesOf ops.toList ok, s1.get t = s.get t := by
  intro t ht
  refine hs t fun e => ?_
  rcases hR.dep i k o ok t (at_list ho) (at_list hok) (fun e => hki e.symm) e ht with h | ⟨_, h⟩
  · exact hnp (hpk i h)
  · exact hkp (hpo k h)
/-- The readings that are still to come are as they were, behind a step that changes the heap. -/
theorem pin_after (hR : RegOk T ops.toList) (hI : Inv P T A N F w0 gb0 H0 ops Ka pre ann pend sfx s listed a w) (ho : ops[i]? = some o) (hnp : i ∉ pre) (hpl : ∀ k ∈ predsOf o, listed.getD k false = true) (hdone : ∀ z ∈ done, listed.getD z false = true)
    (hpin : ∀ k ∈ pre, k ∈ pins ∨ k ∈ done ∨ ∀ ok, ops.toList[k]? = some ok → isR T ok = true → heapR ok = false) {H' : Hp} {n' : Nat} {v : AV} (hpo : pinsOk T ops.toList ((⟨s.env, H', n'⟩ : AS).put o.dst v) pins) {k : Nat} (hkp : k ∈ pre) (hl : listed.getD k false = false) :
    ∃ ok d, ops[k]? = some ok ∧ isR T ok = true ∧ ok.dst = some d ∧ d ∉ namesOf ops.toList ok ∧ gdval T ops.toList ((⟨s.env, H', n'⟩ : AS).put o.dst v) ok = some (((⟨s.env, H', n'⟩ : AS).put o.dst v).get d) := by
  obtain ⟨ok, dk, hok2, hRk, hdk, hnk, hgk⟩ := hI.pin k hkp hl
  have hki : i ≠ k := fun e => hnp (e ▸ hkp)
  refine ⟨ok, dk, hok2, hRk, hdk, hnk, ?_⟩
  rcases hpin k hkp with h | h | h
  · obtain ⟨ok', hok3, hg⟩ := mem_pinsOk hpo h
    rw [Array.getElem?_toList, hok2] at hok3
    injection hok3 with hok3
    subst hok3
    rw [hg]
    unfold dstD
    rw [hdk]
  · rw [hdone k h] at hl; cases hl
  · have hcold := h ok (at_list hok2) hRk
    have hdne : ∀ t, o.dst = some t → t ∉ namesOf ops.toList ok := by
      intro t ht hn
      rcases hR.dep i k o ok t (at_list ho) (at_list hok2) hki ht hn with h | ⟨_, h⟩
      · exact hnp (hI.preP k hkp ok hok2 i h)
      · rw [hpl k h] at hl; cases hl
    rw [gdval_agree (s := s) (fun t ht => ?_) (.inr hcold), hgk, get_put, if_neg]
    · rfl
    · intro e
      exact hki (hR.one i k o ok dk (at_list ho) (at_list hok2) e hdk)
    · rw [get_put, if_neg]
      · rfl
      · intro e; exact hdne t e ht
theorem Inv.head (hI : Inv P T A N F w0 gb0 H0 ops Ka pre ann pend ((i, pins, done) :: r) s listed a w) : ∀ j, j < ops.size → j ∈ i :: pre ∨ j ∈ r.map (·.1) := fun j hj => by
  rcases hI.all j hj with h | h
  · exact .inl (List.mem_cons_of_mem _ h)
  · rw [List.map_cons] at h
    rcases List.mem_cons.1 h with h | h
    · exact .inl (by rw [h]; exact List.mem_cons_self)
    · exact .inr h
theorem Inv.headP (hI : Inv P T A N F w0 gb0 H0 ops Ka pre ann pend ((i, pins, done) :: r) s listed a w) (ho : ops[i]? = some o) (hpr : ∀ j ∈ predsOf o, j ∈ pre ∧ j < i) : (∀ j ∈ i :: pre, ∀ oj, ops[j]? = some oj → ∀ k ∈ predsOf oj, k ∈ i :: pre) ∧ ∀ j ∈ i :: pre, ∀ oj, ops[j]? = some oj → ∀ k ∈ predsOf oj, k < j := by
  refine ⟨fun j hj oj hoj k hk => ?_, fun j hj oj hoj k hk => ?_⟩
  · rcases List.mem_cons.1 hj with rfl | hj
    · rw [ho] at hoj; injection hoj with hoj; subst hoj
      exact List.mem_cons_of_mem _ (hpr k hk).1
    · exact List.mem_cons_of_mem _ (hI.preP j hj oj hoj k hk)
  · rcases List.mem_cons.1 hj with rfl | hj
    · rw [ho] at hoj; injection hoj with hoj; subst hoj
      exact (hpr k hk).2
    · exact hI.fwd j hj oj hoj k hk
/-- What is ahead, behind a step. -/
theorem Inv.pd_next (hR : RegOk T ops.toList) (hI : Inv P T A N F w0 gb0 H0 ops Ka pre ann pend ((i, pins, done) :: r) s listed a w) (ho : ops[i]? = some o) (hnp : i ∉ pre) (hpr : ∀ j ∈ predsOf o, j ∈ pre) (hs : ∀ t, o.dst ≠ some t → s1.get t = s.get t) {p : Pd} (hp : p ∈ pend) (hne : p.i ≠ i) {listed' : Array Bool} (hl : listed'.getD p.i false = true) (hb : w'.heap[p.g]? = w.heap[p.g]?) :
    PdOk P T A F w0 ops (i :: pre) r s1 listed' w' p := by
  have h := hI.pds p hp
  obtain ⟨op, h1, h2, h3, h4⟩ := h.op
  refine ⟨?_, hl, ⟨op, h1, h2, newOf_local (new_stable hR ho hnp hpr h1 h4 (sfx_notin _ pre ann hI.ok _ h.mem) hne hs) h3, fun j hj => List.mem_cons_of_mem _ (h4 j hj)⟩, hb.trans h.blk, h.rep, h.new0, h.notF⟩
  have := h.mem
  rw [List.map_cons] at this
  exact (List.mem_cons.1 this).elim (fun e => absurd e hne) id
theorem Inv.ann_next (hR : RegOk T ops.toList) (hI : Inv P T A N F w0 gb0 H0 ops Ka pre ann pend ((i, pins, done) :: r) s listed a w) (ho : ops[i]? = some o) (hnp : i ∉ pre) (hpr : ∀ j ∈ predsOf o, j ∈ pre) (hs : ∀ t, o.dst ≠ some t → s1.get t = s.get t) {k : Nat} (hk : k ∈ ann) :
    (k ∈ i :: pre ∨ ∃ o, ops[k]? = some o ∧ (newOf T A o s1.eval).isSome = true) ∧ ∀ o, ops[k]? = some o → ∀ j ∈ predsOf o, j ∈ i :: pre := by
  refine ⟨?_, fun o ho j hj => List.mem_cons_of_mem _ (hI.annP k hk o ho j hj)⟩
  by_cases hkp : k ∈ i :: pre
  · exact .inl hkp
  · have hkp' : k ∉ pre := fun h => hkp (List.mem_cons_of_mem _ h)
    have hki : k ≠ i := fun e => hkp (by rw [e]; exact List.mem_cons_self)
    rcases hI.anns k hk with h | ⟨ok, hok, h⟩
    · exact absurd h hkp'
    · refine .inr ⟨ok, hok, ?_⟩
      rw [newOf_local (new_stable hR ho hnp hpr hok (hI.annP k hk ok hok) hkp' hki hs) rfl]
      exact h
theorem annN_R (ho : ops[i]? = some o) (hr : isR T o = true) : annN T ops.toList i pins ann = pins ++ ann := by unfold annN; rw [at_list ho]; simp only [hr, cond_true]
theorem annN_E (ho : ops[i]? = some o) (hr : isR T o = false) : annN T ops.toList i pins ann = ann := by unfold annN; rw [at_list ho]; simp only [hr, cond_false]
theorem Inv.move (hR : RegOk T ops.toList) (hI : Inv P T A N F w0 gb0 H0 ops Ka pre ann pend ((i, pins, done) :: r) s listed a w) {o : Oper} (ho : ops[i]? = some o) (hr : isR T o = true) :
    ∃ s', Inv P T A N F w0 gb0 H0 ops Ka (i :: pre) (pins ++ ann) pend r s' listed a w := by
  obtain ⟨o', ho', hnp, hpr, hok, hRs, _⟩ := step_spec hI.ok
  have e : o' = o := by
    rw [Array.getElem?_toList, ho] at ho'
    injection ho' with ho'
    exact ho'.symm
  subst e
  obtain ⟨⟨d, hd, hnd⟩, hann⟩ := hRs hr
  rw [annN_R ho hr] at hok
  have hw := hI.walk
  unfold rkD at hw
  rw [ho'] at hw
  simp only [hr, cond_true] at hw
  cases hv : gdval T ops.toList s o' with
  | none => rw [hv] at hw; exact hw.elim
  | some v =>
    rw [hv] at hw
    obtain ⟨hw, hnew⟩ := split_annOk hw
    have hpne : ∀ p ∈ pend, p.i ≠ i := fun p hp e => by
      obtain ⟨op, h1, h2, _⟩ := (hI.pds p hp).op
      have := (isE_spec h2).2.2.1
      rw [e, ho] at h1
      injection h1 with h1
      rw [← h1, hr] at this; cases this
    have hul : listed.getD i false = false := (hI.sfxU _ (List.mem_cons_self)).elim id fun ⟨p, hp, e⟩ => absurd e (hpne p hp)
    have hst : ∀ t, o'.dst ≠ some t → (s.put o'.dst v).get t = s.get t := fun t ht => by rw [get_put, if_neg ht]
    have hother : ∀ k ∈ pre, ∀ ok, ops[k]? = some ok → ∀ t ∈ namesOf ops.toList ok, (s.put o'.dst v).get t = s.get t := by
      intro k hk ok hok t ht
      rw [get_put, if_neg]
      intro hdt
      have hki : i ≠ k := fun e => hnp (e ▸ hk)
      rcases hR.dep i k o' ok t ho' (at_list hok) hki hdt ht with h | ⟨h, _⟩
      · exact hnp (hI.preP k hk ok hok i h)
      · rw [hr] at h; cases h
    have hhp := hI.headP ho hpr
    refine ⟨s.put o'.dst v, hI.size, hI.head, hI.closed, fun x hx => hI.sfxU x (List.mem_cons_of_mem _ hx), hhp.1, ?_, hhp.2, fun j hj hl => ?_, hok, hw, fun p hp => hI.pd_next hR ho hnp (fun j hj => (hpr j hj).1) hst hp (hpne p hp) (hI.pds p hp).lst rfl, hI.pendI, fun k hk => ?_, fun k hk => ?_⟩
    · refine hI.good.ext ?_ ?_ (over_ext fun t _ => ?_)
      · exact put_heap
      · exact put_next
      · rw [get_hide, get_hide]
        by_cases hm : t ∈ hid ops.toList listed (i :: pre)
        · rw [if_pos hm]; exact .inr rfl
        · have hm2 : t ∉ hid ops.toList listed pre := fun h => hm (by
            obtain ⟨k, ok, hk, hl, hok', hdk⟩ := mem_hid.1 h
            exact mem_hid.2 ⟨k, ok, List.mem_cons_of_mem _ hk, hl, hok', hdk⟩)
          rw [if_neg hm, if_neg hm2, get_put, if_neg]
          · exact .inl rfl
          · intro hdt
            exact hm (mem_hid.2 ⟨i, o', List.mem_cons_self, hul, ho', hdt⟩)
    · rcases List.mem_cons.1 hj with rfl | hj
      · refine ⟨o', d, ho, hr, hd, hnd, ?_⟩
        rw [gdval_agree (s := s) (fun t ht => by
          rw [get_put, if_neg]
          intro e; rw [hd] at e; injection e with e; subst e; exact hnd ht) (.inl put_heap), hv, get_put, if_pos hd]
      · obtain ⟨ok, dk, hok', hRk, hdk, hnk, hgk⟩ := hI.pin j hj hl
        refine ⟨ok, dk, hok', hRk, hdk, hnk, ?_⟩
        rw [gdval_agree (s := s) (hother j hj ok hok') (.inl put_heap), hgk, get_put, if_neg]
        intro e
        have := hR.one i j o' ok dk ho' (at_list hok') e hdk
        exact hnp (this ▸ hj)
    · rcases List.mem_append.1 hk with hk | hk
      · obtain ⟨ok, hok', h⟩ := hnew k hk
        exact .inr ⟨ok, by rw [← Array.getElem?_toList]; exact hok', h⟩
      · exact (hI.ann_next hR ho hnp (fun j hj => (hpr j hj).1) hst hk).1
    · rcases List.mem_append.1 hk with hk | hk
      · exact fun ok hok' => hann k hk ok (at_list hok')
      · exact (hI.ann_next hR ho hnp (fun j hj => (hpr j hj).1) hst hk).2
theorem unl_lt {n : Nat} (hi : i < n) (hs : i < listed.size) (hl : listed.getD i false = false) : unl n (listed.setIfInBounds i true) < unl n listed := by
  unfold unl
  refine filter_lt (x := i) (by simpa using hi) (by rw [hl]; rfl) (by rw [getD_set' hs, if_pos rfl]; rfl) fun y hy => ?_
  rw [getD_set' hs] at hy
  split at hy
  · cases hy
  · exact hy
theorem closed_next {o : Oper} (hI : Inv P T A N F w0 gb0 H0 ops Ka pre ann pend sfx s listed a w) (hs : j < listed.size) (ho : ops[j]? = some o) (hpl : ∀ k ∈ predsOf o, listed.getD k false = true) :
    ∀ k ok, ops[k]? = some ok → (listed.setIfInBounds j true).getD k false = true → ∀ e ∈ predsOf ok, (listed.setIfInBounds j true).getD e false = true := by
  intro k ok hok hlk e he
  rw [getD_set' hs] at hlk ⊢
  split
  · rfl
  · split at hlk
    · rename_i hkj
      subst hkj
      rw [ho] at hok
      injection hok with hok
      subst hok
      exact hpl e he
    · exact hI.closed k ok hok hlk e he
theorem hid_next {t : Nat} (hs : j < listed.size) (ho : ops[j]? = some o) {pre' : List Nat} (hsub : ∀ k ∈ pre, k ∈ pre') (htd : o.dst ≠ some t ∨ j ∉ pre) (hm : t ∈ hid ops.toList listed pre) : t ∈ hid ops.toList (listed.setIfInBounds j true) pre' := by
  obtain ⟨k, ok, hk, hl, hok, hdk⟩ := mem_hid.1 hm
  refine mem_hid.2 ⟨k, ok, hsub k hk, ?_, hok, hdk⟩
  rw [getD_set' hs, if_neg]
  · exact hl
  · rintro rfl
    rw [Array.getElem?_toList, ho] at hok
    injection hok with hok
    subst hok
    exact htd.elim (fun h => h hdk) fun h => h hk
theorem dst_lt (hdN : ∀ o ∈ ops.toList, okD N o = true) (ho : ops[j]? = some o) : ∀ k, o.dst = some k → k < N := fun k hk => by
  have := hdN o (List.mem_of_getElem? (at_list ho))
  unfold okD at this
  rw [hk] at this
  exact Nat.le_of_ble_eq_true this
theorem ready_spec {o : Oper} (hj : j ∈ Region.ready .any ops listed) (hsz : listed.size = ops.size) (ho : ops[j]? = some o) : listed.getD j false = false ∧ j < listed.size ∧ ∀ k ∈ predsOf o, listed.getD k false = true := by
  obtain ⟨h1, o2, ho2, hall⟩ := mem_ready.1 hj
  have hlt := (Array.getElem?_eq_some_iff.1 ho).1
  have hls : j < listed.size := by rw [hsz]; exact hlt
  rw [getD_true hls] at h1
  rw [ho] at ho2
  injection ho2 with ho2
  subst ho2
  exact ⟨h1, hls, fun k hk => by
    obtain ⟨e, he, he1, hb⟩ := mem_preds.1 hk
    rw [← he1]; exact hall e he hb⟩
/-- A reading that is done late. -/
theorem Inv.late {fuel : Nat} (hT : T.Ok P) (hR : RegOk T ops.toList) (hdN : ∀ o ∈ ops.toList, okD N o = true) (ih : ∀ (sfx : List (Nat × List Nat × List Nat)) (ann : List Nat) (pend : List Pd) (pre : List Nat) (s : AS) (listed : Array Bool) (a : Act) (w : World), unl ops.size listed ≤ fuel → Inv P T A N F w0 gb0 H0 ops Ka pre ann pend sfx s listed a w → wpAny P .any ops Q fuel listed a w)
    (hu : unl ops.size listed ≤ fuel + 1) (hI : Inv P T A N F w0 gb0 H0 ops Ka pre ann pend sfx s listed a w) (hj : j ∈ Region.ready .any ops listed) (hjp : j ∈ pre) : wpOp P ops Q j (wpAny P .any ops Q fuel (listed.setIfInBounds j true)) a w := by
  obtain ⟨_, o, ho, _⟩ := mem_ready.1 hj
  obtain ⟨h1, hls, hpl⟩ := ready_spec hj hI.size ho
  have hlt := (Array.getElem?_eq_some_iff.1 ho).1
  obtain ⟨o', d, ho', hRo, hd, hnd, hgv⟩ := hI.pin j hjp h1
  rw [ho] at ho'
  injection ho' with ho'
  subst ho'
  have hag := names_agree hR hI ho hpl (hI.preP j hjp o ho) h1
  have hgv' : gdval T ops.toList (over (hide s (hid ops.toList listed pre)) pend) o = some (s.get d) := by rw [gdval_agree (s := s) hag (.inl rfl)]; exact hgv
  have hdN' := dst_lt hdN ho
  have hpne : ∀ p ∈ pend, p.i ≠ j := fun p hp e => sfx_notin sfx pre ann hI.ok _ (hI.pds p hp).mem (e ▸ hjp)
  have hpd : ∀ k, o.dst = some k → ∀ p ∈ pend, p.d ≠ k := fun k hk p hp => hI.pd hR hp ho hk (hpne p hp)
  have hnext : ∀ a' w', R P N (Fp F pend) w0 gb0 H0 ((over (hide s (hid ops.toList listed pre)) pend).put o.dst (s.get d)) a' w' → (∀ b o, Fp F pend b o → w'.heap[b]? = w.heap[b]?) → wpAny P .any ops Q fuel (listed.setIfInBounds j true) a' w' := by
    intro a' w' hr' hkeep
    refine ih sfx ann pend pre s _ a' w' (by have := unl_lt hlt hls h1; omega) ⟨by simp [hI.size], hI.all, closed_next hI hls ho hpl, fun x hx => ?_, hI.preP, ?_, hI.fwd, fun k hk hlk => ?_, hI.ok, hI.walk, fun p hp => ?_, hI.pendI, hI.anns, hI.annP⟩
    · rw [getD_set' hls]
      split
      · rename_i he
        exact absurd (he ▸ hjp) (sfx_notin sfx pre ann hI.ok x.1 (List.mem_map_of_mem hx))
      · exact hI.sfxU x hx
    · refine (hr'.ext (s' := over ((hide s (hid ops.toList listed pre)).put o.dst (s.get d)) pend) ?_ ?_ fun t => .inl (over_put hpd t)).ext ?_ ?_ (over_ext fun t _ => ?_)
      · rw [put_heap]; show ((hide s (hid ops.toList listed pre)).put o.dst (s.get d)).heap = _; rw [put_heap]; rfl
      · rw [put_next]; show ((hide s (hid ops.toList listed pre)).put o.dst (s.get d)).next = _; rw [put_next]; rfl
      · show _ = ((hide s (hid ops.toList listed pre)).put o.dst (s.get d)).heap; rw [put_heap]; rfl
      · show _ = ((hide s (hid ops.toList listed pre)).put o.dst (s.get d)).next; rw [put_next]; rfl
      · rw [get_hide, get_put, get_hide]
        by_cases hm : t ∈ hid ops.toList (listed.setIfInBounds j true) pre
        · rw [if_pos hm]; exact .inr rfl
        · rw [if_neg hm]
          by_cases htd : o.dst = some t
          · rw [if_pos htd]
            rw [hd] at htd
            injection htd with htd
            subst htd
            exact .inl rfl
          · rw [if_neg htd, if_neg]
            · exact .inl rfl
            · exact fun hm2 => hm (hid_next hls ho (fun _ h => h) (.inl htd) hm2)
    · refine hI.pin k hk ?_
      rw [getD_set' hls] at hlk
      split at hlk
      · cases hlk
      · exact hlk
    · have h := hI.pds p hp
      refine ⟨h.mem, ?_, h.op, (hkeep p.g 0 (.inr ⟨p, hp, rfl⟩)).trans h.blk, h.rep, h.new0, h.notF⟩
      rw [getD_set' hls, if_neg (hpne p hp)]
      exact h.lst
  obtain ⟨gb, g⟩ := hI.good
  unfold wpOp
  simp only [ho]
  unfold gdval at hgv'
  cases hg : gsem ops.toList (over (hide s (hid ops.toList listed pre)) pend) o with
  | none => rw [hg] at hgv'; cases hgv'
  | some b =>
    rw [hg] at hgv'
    rw [gsem_ok g hg]
    cases b with
    | true =>
      rw [if_pos rfl]
      exact .inl (dval_keep hT hgv' g hdN' hnext)
    | false =>
      rw [if_neg (by simp)]
      simp only [Option.some.injEq] at hgv'
      rw [← hgv'] at hnext
      exact hnext _ _ ⟨gb, g.put hdN' (x := .skip) (Rep.lit undef)⟩ fun _ _ _ => rfl
/-- An allocation that is done before its turn. -/
theorem Inv.early {fuel : Nat} (hT : T.Ok P) (hR : RegOk T ops.toList) (hdN : ∀ o ∈ ops.toList, okD N o = true) (ih : ∀ (sfx : List (Nat × List Nat × List Nat)) (ann : List Nat) (pend : List Pd) (pre : List Nat) (s : AS) (listed : Array Bool) (a : Act) (w : World), unl ops.size listed ≤ fuel → Inv P T A N F w0 gb0 H0 ops Ka pre ann pend sfx s listed a w → wpAny P .any ops Q fuel listed a w)
    (hu : unl ops.size listed ≤ fuel + 1) (hI : Inv P T A N F w0 gb0 H0 ops Ka pre ann pend sfx s listed a w) (hj : j ∈ Region.ready .any ops listed) (hjs : j ∈ sfx.map (·.1)) (ho : ops[j]? = some o) (hE : isE T ops.toList o = true) (hnew : (newOf T A o s.eval).isSome = true) : wpOp P ops Q j (wpAny P .any ops Q fuel (listed.setIfInBounds j true)) a w := by
  obtain ⟨h1, hls, hpl⟩ := ready_spec hj hI.size ho
  have hlt := (Array.getElem?_eq_some_iff.1 ho).1
  obtain ⟨hg0, hin, hnR, hpR⟩ := isE_spec hE
  have hjp := sfx_notin sfx pre ann hI.ok j hjs
  have hpp : ∀ k ∈ predsOf o, k ∈ pre := fun k hk => by
    obtain ⟨ok, hok, hRk⟩ := hpR k hk
    have hks := (List.getElem?_eq_some_iff.1 hok).1
    rcases hI.all k (by simpa using hks) with h | h
    · exact h
    · obtain ⟨x, hx, rfl⟩ := List.mem_map.1 h
      rcases hI.sfxU x hx with h | ⟨p, hp, he⟩
      · rw [hpl _ hk] at h; cases h
      · obtain ⟨op, hop, hEp, _⟩ := (hI.pds p hp).op
        have := (isE_spec hEp).2.2.1
        rw [← he, Array.getElem?_toList, hop] at hok
        injection hok with hok
        rw [hok, hRk] at this; cases this
  have hag := names_agree hR hI ho hpl hpp h1
  obtain ⟨⟨d, oo, v⟩, hnw⟩ := Option.isSome_iff_exists.1 hnew
  have hd := (newOf_op hnw).1
  obtain ⟨gb, g⟩ := hI.good
  have hpne : ∀ p ∈ pend, p.i ≠ j := fun p hp e => by have := (hI.pds p hp).lst; rw [e, h1] at this; cases this
  obtain ⟨val, ob, size, hrun, hrep⟩ := newOf_run hT (newOf_local hag hnw) g
  obtain ⟨b1, b2, b3⟩ := alloc_below w ob
  have hpg : ∀ p ∈ pend, p.g < w.heap.size := fun p hp => g.ok.FB p.g 0 (.inr ⟨p, hp, rfl⟩)
  have hgs : gsem ops.toList (over (hide s (hid ops.toList listed pre)) pend) o = some true := by unfold gsem; rw [hg0]
  unfold wpOp
  simp only [ho]
  rw [gsem_ok g hgs, if_pos rfl]
  refine .inl (wp_val hrun ?_)
  have hF : ∀ b o, Fp F (⟨j, d, w.heap.size, size, val, ob, oo, v⟩ :: pend) b o ↔ Fp F pend b o ∨ b = w.heap.size := fun b o => by
    unfold Fp
    constructor
    · rintro (h | ⟨p, hp, he⟩)
      · exact .inl (.inl h)
      · rcases List.mem_cons.1 hp with rfl | hp
        · exact .inr he.symm
        · exact .inl (.inr ⟨p, hp, he⟩)
    · rintro ((h | ⟨p, hp, he⟩) | h)
      · exact .inl h
      · exact .inr ⟨p, List.mem_cons_of_mem _ hp, he⟩
      · exact .inr ⟨_, List.mem_cons_self, h.symm⟩
  refine ih sfx ann (⟨j, d, w.heap.size, size, val, ob, oo, v⟩ :: pend) pre s _ _ _ (by have := unl_lt hlt hls h1; omega) ⟨by simp [hI.size], hI.all, closed_next hI hls ho hpl, fun x hx => ?_, hI.preP, ?_, hI.fwd, fun k hk hlk => ?_, hI.ok, hI.walk, fun p hp => ?_, fun p hp q hq h => ?_, hI.anns, hI.annP⟩
  · rw [getD_set' hls]
    split
    · rename_i he
      exact .inr ⟨_, List.mem_cons_self, he.symm⟩
    · exact (hI.sfxU x hx).elim .inl fun ⟨p, hp, he⟩ => .inr ⟨p, List.mem_cons_of_mem _ hp, he⟩
  · have g1 := g.early (F' := Fp F (⟨j, d, w.heap.size, size, val, ob, oo, v⟩ :: pend)) (v := val) (dst_lt hdN ho d hd) b1 b2 hF
    rw [← hd] at g1
    refine R.ext ⟨gb, g1⟩ ?_ ?_ fun t => ?_
    · rw [put_heap]; rfl
    · rw [put_next]; rfl
    · have e : over (hide s (hid ops.toList listed pre)) (⟨j, d, w.heap.size, size, val, ob, oo, v⟩ :: pend) = (over (hide s (hid ops.toList listed pre)) pend).put o.dst (.lit val) := by rw [hd]; rfl
      rw [← e]
      refine over_ext (fun t _ => ?_) t
      rw [get_hide, get_hide]
      by_cases hm : t ∈ hid ops.toList (listed.setIfInBounds j true) pre
      · rw [if_pos hm]; exact .inr rfl
      · rw [if_neg hm, if_neg]
        · exact .inl rfl
        · exact fun hm2 => hm (hid_next hls ho (fun _ h => h) (.inr hjp) hm2)
  · refine hI.pin k hk ?_
    rw [getD_set' hls] at hlk
    split at hlk
    · cases hlk
    · exact hlk
  · rcases List.mem_cons.1 hp with rfl | hp
    · refine ⟨hjs, ?_, ⟨o, ho, hE, hnw, hpp⟩, b3, hrep, g.kept.size, fun o hf => ?_⟩
      · show (listed.setIfInBounds j true).getD j false = true
        rw [getD_set' hls, if_pos rfl]
      · have := g.ok.FB _ o (.inl hf)
        exact Nat.lt_irrefl _ this
    · have h := hI.pds p hp
      refine ⟨h.mem, ?_, h.op, (b1.block p.g (hpg p hp)).trans h.blk, h.rep, h.new0, h.notF⟩
      rw [getD_set' hls, if_neg (hpne p hp)]
      exact h.lst
  · rcases List.mem_cons.1 hp with rfl | hp <;> rcases List.mem_cons.1 hq with rfl | hq
    · rfl
    · rcases h with h | h
      · exact absurd h.symm (hpne q hq)
      · have := hpg q hq
        simp only at h
        omega
    · rcases h with h | h
      · exact absurd h (hpne p hp)
      · have := hpg p hp
        simp only at h
        omega
    · exact hI.pendI p hp q hq h
/-- The turn of an allocation that is already done. -/
theorem Inv.named (hR : RegOk T ops.toList) (hI : Inv P T A N F w0 gb0 H0 ops Ka pre ann pend ((i, pins, done) :: r) s listed a w) {p : Pd} (hp : p ∈ pend) (hpi : p.i = i) :
    ∃ pend' s', Inv P T A N F w0 gb0 H0 ops Ka (i :: pre) ann pend' r s' listed a w := by
  obtain ⟨o', ho', hnp, hpr, hok, _, hEr⟩ := step_spec hI.ok
  have hP := hI.pds p hp
  obtain ⟨o, ho, hE, hnw, hpp⟩ := hP.op
  rw [hpi] at ho
  have e : o' = o := by
    rw [Array.getElem?_toList, ho] at ho'
    injection ho' with ho'
    exact ho'.symm
  subst e
  obtain ⟨hg0, hin, hnR, hpR⟩ := isE_spec hE
  obtain ⟨_, hchain, hpin⟩ := hEr hnR
  rw [annN_E ho hnR] at hok
  have hd := (newOf_op hnw).1
  have hlst : listed.getD i false = true := hpi ▸ hP.lst
  have hpl : ∀ k ∈ predsOf o', listed.getD k false = true := hI.closed i o' ho hlst
  have hdone : ∀ z ∈ done, listed.getD z false = true := chain_mem (fun z => listed.getD z false = true) hpl (fun z' oz hz hoz z hzz => hI.closed z' oz (by rw [← Array.getElem?_toList]; exact hoz) hz z hzz) done [] (fun z hz => by cases hz) hchain
  have hw := hI.walk
  unfold rkD at hw
  rw [ho'] at hw
  simp only [hnR, cond_false] at hw
  unfold geff at hw
  have hgs : gsem ops.toList s o' = some true := by unfold gsem; rw [hg0]
  rw [hgs] at hw
  simp only at hw
  unfold eff1 at hw
  rw [newOf_fop hnw] at hw
  simp only at hw
  have hdst : dstD o' ((s.fresh p.oo).set p.d (p.v s.next)) = p.v s.next := by
    unfold dstD
    rw [hd]
    simp only
    rw [AS.get_set, if_pos rfl]
  rw [hdst] at hw
  obtain ⟨hpo, hwalk⟩ := hw
  obtain ⟨gb, g⟩ := hI.good
  have hF : ∀ b o, Fp F pend b o ↔ Fp F (pend.filter fun q => !Nat.beq q.i i) b o ∨ b = p.g := fun b o => by
    unfold Fp
    constructor
    · rintro (h | ⟨q, hq, he⟩)
      · exact .inl (.inl h)
      · by_cases hqi : q.i = i
        · have := hI.pendI q hq p hp (.inl (hqi.trans hpi.symm))
          subst this
          exact .inr he.symm
        · refine .inl (.inr ⟨q, List.mem_filter.2 ⟨hq, ?_⟩, he⟩)
          rw [Bool.not_eq_true', ← Bool.not_eq_true]
          exact fun h => hqi (Nat.eq_of_beq_eq_true h)
    · rintro ((h | ⟨q, hq, he⟩) | h)
      · exact .inl h
      · exact .inr ⟨q, (List.mem_filter.1 hq).1, he⟩
      · exact .inr ⟨p, hp, h.symm⟩
  have hmem' : ∀ q ∈ (pend.filter fun q => !Nat.beq q.i i), q ∈ pend ∧ q.i ≠ i := fun q hq => by
    obtain ⟨h1, h2⟩ := List.mem_filter.1 hq
    refine ⟨h1, fun e => ?_⟩
    rw [e] at h2
    simp at h2
  have hnF : ∀ o, ¬ Fp F (pend.filter fun q => !Nat.beq q.i i) p.g o := by
    rintro o (h | ⟨q, hq, he⟩)
    · exact hP.notF o h
    · obtain ⟨h1, h2⟩ := hmem' q hq
      have := hI.pendI q h1 p hp (.inr he)
      rw [this] at h2
      exact h2 hpi
  have g2 := g.name (oo := p.oo) (size := p.size) hF hnF hP.new0 (hP.rep w _ _ s.next hP.blk (gbn_at gb s.next _)).1
  have hst : ∀ t, o'.dst ≠ some t → ((s.fresh p.oo).set p.d (p.v s.next)).get t = s.get t := fun t ht => by
    rw [AS.get_set, if_neg]
    · rfl
    · intro e; exact ht (by rw [hd, e])
  have hhp := hI.headP ho hpr
  have hval : a.tmps.getD p.d undef = p.val := by
    have h := g.slots p.d
    rw [over_at hp fun q hq h => hI.dI hR hp hq h] at h
    exact rep_lit h
  refine ⟨pend.filter fun q => !Nat.beq q.i i, (s.fresh p.oo).set p.d (p.v s.next), hI.size, hI.head, hI.closed, fun x hx => ?_, hhp.1, ?_, hhp.2, fun k hk hl => ?_, hok, ?_, fun q hq => ?_, fun q hq q' hq' h => hI.pendI q (hmem' q hq).1 q' (hmem' q' hq').1 h, fun k hk => (hI.ann_next hR ho hnp (fun j hj => (hpr j hj).1) hst hk).1, fun k hk => (hI.ann_next hR ho hnp (fun j hj => (hpr j hj).1) hst hk).2⟩
  · rcases hI.sfxU x (List.mem_cons_of_mem _ hx) with h | ⟨q, hq, he⟩
    · exact .inl h
    · refine .inr ⟨q, List.mem_filter.2 ⟨hq, ?_⟩, he⟩
      rw [Bool.not_eq_true', ← Bool.not_eq_true]
      intro h
      have hxi : x.1 = i := he.symm.trans (Nat.eq_of_beq_eq_true h)
      exact sfx_notin r (i :: pre) ann hok x.1 (List.mem_map_of_mem hx) (by rw [hxi]; exact List.mem_cons_self)
  · refine ⟨gbn gb s.next (p.g, p.size), g2.reslot (s' := over (hide ((s.fresh p.oo).set p.d (p.v s.next)) (hid ops.toList listed (i :: pre))) (pend.filter fun q => !Nat.beq q.i i)) rfl rfl fun t => ?_⟩
    by_cases ht : ∃ q ∈ (pend.filter fun q => !Nat.beq q.i i), q.d = t
    · obtain ⟨q, hq, rfl⟩ := ht
      have h := g2.slots q.d
      have e1 : ((over (hide s (hid ops.toList listed pre)) pend).fresh p.oo).get q.d = .lit q.val := over_at (hmem' q hq).1 fun q' hq' h => hI.dI hR (hmem' q hq).1 hq' h
      rw [over_at hq fun q' hq' h => hI.dI hR (hmem' q hq).1 (hmem' q' hq').1 h]
      rw [e1] at h
      exact h
    · have ht' : ∀ q ∈ (pend.filter fun q => !Nat.beq q.i i), q.d ≠ t := fun q hq e => ht ⟨q, hq, e⟩
      rw [over_ne ht', get_hide]
      by_cases hm : t ∈ hid ops.toList listed (i :: pre)
      · rw [if_pos hm]; exact .dead _
      · rw [if_neg hm, AS.get_set]
        by_cases htd : t = p.d
        · subst htd
          rw [if_pos rfl, hval]
          exact (hP.rep w _ _ s.next hP.blk (gbn_at gb s.next _)).2
        · rw [if_neg htd]
          have h := g2.slots t
          have e1 : ((over (hide s (hid ops.toList listed pre)) pend).fresh p.oo).get t = (over (hide s (hid ops.toList listed pre)) pend).get t := rfl
          rw [e1, over_ne, get_hide, if_neg] at h
          · exact h
          · intro hm2
            obtain ⟨k, ok, hk, hl, hok', hdk⟩ := mem_hid.1 hm2
            exact hm (mem_hid.2 ⟨k, ok, List.mem_cons_of_mem _ hk, hl, hok', hdk⟩)
          · intro q hq e
            by_cases hqi : q.i = i
            · have := hI.pendI q hq p hp (.inl (hqi.trans hpi.symm))
              rw [this] at e
              exact htd e.symm
            · refine ht' q (List.mem_filter.2 ⟨hq, ?_⟩) e
              rw [Bool.not_eq_true', ← Bool.not_eq_true]
              exact fun h => hqi (Nat.eq_of_beq_eq_true h)
  · have hki : k ≠ i := fun e => by rw [e, hlst] at hl; cases hl
    have := pin_after hR hI ho hnp hpl hdone hpin hpo ((List.mem_cons.1 hk).elim (fun e => absurd e hki) id) hl
    rw [hd] at this
    exact this
  · rw [hd] at hwalk
    exact hwalk
  · exact hI.pd_next hR ho hnp (fun j hj => (hpr j hj).1) hst (hmem' q hq).1 (hmem' q hq).2 (hI.pds q (hmem' q hq).1).lst rfl
/-- What changes the heap, when it is its turn. -/
theorem Inv.turn {fuel : Nat} (hT : T.Ok P) (hR : RegOk T ops.toList) (hdN : ∀ o ∈ ops.toList, okD N o = true) (ih : ∀ (sfx : List (Nat × List Nat × List Nat)) (ann : List Nat) (pend : List Pd) (pre : List Nat) (s : AS) (listed : Array Bool) (a : Act) (w : World), unl ops.size listed ≤ fuel → Inv P T A N F w0 gb0 H0 ops Ka pre ann pend sfx s listed a w → wpAny P .any ops Q fuel listed a w)
    (hu : unl ops.size listed ≤ fuel + 1) (hI : Inv P T A N F w0 gb0 H0 ops Ka pre ann pend ((i, pins, done) :: r) s listed a w) (hi : i ∈ Region.ready .any ops listed) (ho : ops[i]? = some o) (hRo : isR T o = false) : wpOp P ops Q i (wpAny P .any ops Q fuel (listed.setIfInBounds i true)) a w := by
  obtain ⟨o', ho', hnp, hpr, hok, _, hE⟩ := step_spec hI.ok
  have e : o' = o := by
    rw [Array.getElem?_toList, ho] at ho'
    injection ho' with ho'
    exact ho'.symm
  subst e
  obtain ⟨_, hchain, hpin⟩ := hE hRo
  rw [annN_E ho hRo] at hok
  obtain ⟨h1, hls, hpl⟩ := ready_spec hi hI.size ho
  have hlt := (Array.getElem?_eq_some_iff.1 ho).1
  have hdone : ∀ z ∈ done, listed.getD z false = true := chain_mem (fun z => listed.getD z false = true) hpl (fun z' oz hz hoz z hzz => hI.closed z' oz (by rw [← Array.getElem?_toList]; exact hoz) hz z hzz) done [] (fun z hz => by cases hz) hchain
  have hag := names_agree hR hI ho hpl (fun j hj => (hpr j hj).1) h1
  have hw := hI.walk
  unfold rkD at hw
  rw [ho'] at hw
  simp only [hRo, cond_false] at hw
  have hpne : ∀ p ∈ pend, p.i ≠ i := fun p hp e => by have := (hI.pds p hp).lst; rw [e, h1] at this; cases this
  have hpd : ∀ k, o'.dst = some k → ∀ p ∈ pend, p.d ≠ k := fun k hk p hp => hI.pd hR hp ho hk (hpne p hp)
  obtain ⟨gb, g⟩ := hI.good
  refine geff_keep hT ho (dst_lt hdN ho) (geff_agree hag rfl rfl hw) g fun H' n' v hKK a' w' hr' hkeep => ?_
  obtain ⟨hpo, hwalk⟩ := hKK
  have hst : ∀ t, o'.dst ≠ some t → ((⟨s.env, H', n'⟩ : AS).put o'.dst v).get t = s.get t := fun t ht => by rw [get_put, if_neg ht]; rfl
  have hhp := hI.headP ho hpr
  refine ih r ann pend (i :: pre) _ _ a' w' (by have := unl_lt hlt hls h1; omega) ⟨by simp [hI.size], hI.head, closed_next hI hls ho hpl, fun x hx => ?_, hhp.1, ?_, hhp.2, fun k hk hlk => ?_, hok, hwalk, fun p hp => ?_, hI.pendI, fun k hk => (hI.ann_next hR ho hnp (fun j hj => (hpr j hj).1) hst hk).1, fun k hk => (hI.ann_next hR ho hnp (fun j hj => (hpr j hj).1) hst hk).2⟩
  · rw [getD_set' hls]
    split
    · rename_i he
      exact absurd (by rw [he]; exact List.mem_cons_self) (sfx_notin r (i :: pre) ann hok x.1 (List.mem_map_of_mem hx))
    · exact hI.sfxU x (List.mem_cons_of_mem _ hx)
  · refine (hr'.ext (s' := over ((⟨(hide s (hid ops.toList listed pre)).env, H', n'⟩ : AS).put o'.dst v) pend) ?_ ?_ fun t => .inl (over_put (s := ⟨(hide s (hid ops.toList listed pre)).env, H', n'⟩) hpd t)).ext ?_ ?_ (over_ext fun t _ => ?_)
    · show AS.heap _ = AS.heap _
      rw [put_heap]
      show ((⟨_, H', n'⟩ : AS).put o'.dst v).heap = _
      rw [put_heap]
    · show AS.next _ = AS.next _
      rw [put_next]
      show ((⟨_, H', n'⟩ : AS).put o'.dst v).next = _
      rw [put_next]
    · show ((⟨_, H', n'⟩ : AS).put o'.dst v).heap = ((⟨_, H', n'⟩ : AS).put o'.dst v).heap
      rw [put_heap, put_heap]
    · show ((⟨_, H', n'⟩ : AS).put o'.dst v).next = ((⟨_, H', n'⟩ : AS).put o'.dst v).next
      rw [put_next, put_next]
    · rw [get_hide]
      by_cases hm : t ∈ hid ops.toList (listed.setIfInBounds i true) (i :: pre)
      · rw [if_pos hm]; exact .inr rfl
      · rw [if_neg hm, get_put, get_put]
        by_cases htd : o'.dst = some t
        · rw [if_pos htd, if_pos htd]; exact .inl rfl
        · rw [if_neg htd, if_neg htd]
          refine .inl ?_
          show s.get t = (hide s (hid ops.toList listed pre)).get t
          rw [get_hide, if_neg]
          exact fun hm2 => hm (hid_next hls ho (fun _ h => List.mem_cons_of_mem _ h) (.inl htd) hm2)
  · have hlk' : k ≠ i ∧ listed.getD k false = false := by
      rw [getD_set' hls] at hlk
      split at hlk
      · cases hlk
      · exact ⟨by assumption, hlk⟩
    exact pin_after hR hI ho hnp hpl hdone hpin hpo ((List.mem_cons.1 hk).elim (fun e => absurd e hlk'.1) id) hlk'.2
  · refine hI.pd_next hR ho hnp (fun j hj => (hpr j hj).1) hst hp (hpne p hp) ?_ (hkeep p.g 0 (.inr ⟨p, hp, rfl⟩))
    rw [getD_set' hls, if_neg (hpne p hp)]
    exact (hI.pds p hp).lst
theorem Inv.hallL (hI : Inv P T A N F w0 gb0 H0 ops Ka pre ann pend [] s listed a w) (hr : Region.ready .any ops listed = []) : R P N F w0 gb0 H0 s a w ∧ Ka s := by
  have hpn : pend = [] := List.eq_nil_iff_forall_not_mem.2 fun p hp => by have := (hI.pds p hp).mem; cases this
  subst hpn
  have hall : ∀ i, i < ops.size → listed.getD i false = true := by
    intro i
    induction i using Nat.strongRecOn with
    | _ i ih =>
      intro hi
      rcases hl : listed.getD i false with _ | _
      · exfalso
        have ho : ops[i]? = some ops[i] := Array.getElem?_eq_getElem hi
        have hip : i ∈ pre := (hI.all i hi).elim id (fun h => by simp at h)
        have : i ∈ Region.ready .any ops listed := mem_ready.2 ⟨by rw [getD_true (by rw [hI.size]; exact hi)]; exact hl, _, ho, fun e he hb => by
          have hj := mem_preds.2 ⟨e, he, rfl, hb⟩
          have hlt := hI.fwd i hip _ ho _ hj
          exact ih e.on hlt (by omega)⟩
        rw [hr] at this
        cases this
      · rfl
  have hw := hI.walk
  unfold rkD at hw
  refine ⟨?_, hw⟩
  have hg := hI.good
  rw [Fp_nil] at hg
  refine hg.ext rfl rfl fun t => .inl ?_
  rw [over_ne (fun p hp => by cases hp), get_hide, if_neg]
  intro hm
  obtain ⟨k, ok, hk, hl, hok, _⟩ := mem_hid.1 hm
  have hlt := (List.getElem?_eq_some_iff.1 hok).1
  rw [hall k (by simpa using hlt)] at hl
  cases hl
theorem Inv.none_ready (hI : Inv P T A N F w0 gb0 H0 ops Ka pre ann pend ((i, pins, done) :: r) s listed a w) (hl : listed.getD i false = false) (hr : Region.ready .any ops listed = []) : False := by
  obtain ⟨o, ho, hnp, hpr, hok, _⟩ := step_spec hI.ok
  rw [Array.getElem?_toList] at ho
  have hlt := (Array.getElem?_eq_some_iff.1 ho).1
  have hpre : ∀ k, k ∈ pre → k < ops.size → listed.getD k false = true := by
    intro k
    induction k using Nat.strongRecOn with
    | _ k ih =>
      intro hk hks
      rcases hl : listed.getD k false with _ | _
      · exfalso
        have hok' : ops[k]? = some ops[k] := Array.getElem?_eq_getElem hks
        have : k ∈ Region.ready .any ops listed := mem_ready.2 ⟨by rw [getD_true (by rw [hI.size]; exact hks)]; exact hl, _, hok', fun e he hb => by
          have hj := mem_preds.2 ⟨e, he, rfl, hb⟩
          have hlt := hI.fwd k hk _ hok' _ hj
          exact ih e.on hlt (hI.preP k hk _ hok' _ hj) (by omega)⟩
        rw [hr] at this
        cases this
      · rfl
  have : i ∈ Region.ready .any ops listed := mem_ready.2 ⟨by rw [getD_true (by rw [hI.size]; exact hlt)]; exact hl, o, ho, fun e he hb => by
    have hj := mem_preds.2 ⟨e, he, rfl, hb⟩
    have := hpr _ hj
    exact hpre e.on this.1 (by omega)⟩
  rw [hr] at this
  cases this
theorem unl_pos (hi : i < ops.size) (hl : listed.getD i false = false) : 0 < unl ops.size listed := by
  have : i ∈ (List.range ops.size).filter fun i => !listed.getD i false := by
    rw [List.mem_filter]; exact ⟨by simpa using hi, by rw [hl]; rfl⟩
  exact List.length_pos_of_mem this
theorem sched_any (hT : T.Ok P) (hR : RegOk T ops.toList) (hdN : ∀ o ∈ ops.toList, okD N o = true) (hK : ∀ s a w, Ka s → R P N F w0 gb0 H0 s a w → Q .normal a w) :
    ∀ (fuel : Nat) (sfx : List (Nat × List Nat × List Nat)) (ann : List Nat) (pend : List Pd) (pre : List Nat) (s : AS) (listed : Array Bool) (a : Act) (w : World), unl ops.size listed ≤ fuel → Inv P T A N F w0 gb0 H0 ops Ka pre ann pend sfx s listed a w → wpAny P .any ops Q fuel listed a w := by
  intro fuel
  induction fuel with
  | zero =>
    intro sfx
    induction sfx with
    | nil =>
      intro ann pend pre s listed a w hu hI
      have hr : Region.ready .any ops listed = [] := by
        rw [List.eq_nil_iff_forall_not_mem]
        intro i hi
        obtain ⟨_, o, ho, _⟩ := mem_ready.1 hi
        have := unl_pos (Array.getElem?_eq_some_iff.1 ho).1 (ready_spec hi hI.size ho).1
        omega
      obtain ⟨h1, h2⟩ := hI.hallL hr
      exact ⟨hr, hK s a w h2 h1⟩
    | cons x sfx ihs =>
      intro ann pend pre s listed a w hu hI
      obtain ⟨i, pins, done⟩ := x
      rcases hI.sfxU _ (List.mem_cons_self) with hl | ⟨p, hp, he⟩
      · obtain ⟨o, ho, _⟩ := step_spec hI.ok
        rw [Array.getElem?_toList] at ho
        have := unl_pos (Array.getElem?_eq_some_iff.1 ho).1 hl
        omega
      · obtain ⟨pend', s', hI'⟩ := hI.named hR hp he
        exact ihs _ _ _ _ _ _ _ hu hI'
  | succ fuel ih =>
    intro sfx
    induction sfx with
    | nil =>
      intro ann pend pre s listed a w hu hI
      refine ⟨fun hr => ?_, fun j hj => hI.late hT hR hdN ih hu hj ?_⟩
      · obtain ⟨h1, h2⟩ := hI.hallL hr
        exact hK s a w h2 h1
      · obtain ⟨_, o, ho, _⟩ := mem_ready.1 hj
        have hlt := (Array.getElem?_eq_some_iff.1 ho).1
        exact (hI.all j hlt).elim id (fun h => by simp at h)
    | cons x sfx ihs =>
      intro ann pend pre s listed a w hu hI
      obtain ⟨i, pins, done⟩ := x
      obtain ⟨o, ho, hnp, hpr, hok, _, hE⟩ := step_spec hI.ok
      have ho2 : ops[i]? = some o := by rw [← Array.getElem?_toList]; exact ho
      cases hRo : isR T o with
      | true =>
        obtain ⟨s', hI'⟩ := hI.move hR ho2 hRo
        exact ihs _ _ _ _ _ _ _ hu hI'
      | false =>
        rcases hI.sfxU _ (List.mem_cons_self) with hl | ⟨p, hp, he⟩
        · refine ⟨fun hr => (hI.none_ready hl hr).elim, fun j hj => ?_⟩
          obtain ⟨_, oj, hoj, _⟩ := mem_ready.1 hj
          obtain ⟨h1, hls, hall⟩ := ready_spec hj hI.size hoj
          have hlt := (Array.getElem?_eq_some_iff.1 hoj).1
          rcases hI.all j hlt with h | h
          · exact hI.late hT hR hdN ih hu hj h
          · have h' := h
            rw [List.map_cons] at h
            rcases List.mem_cons.1 h with h | h
            · simp only at h
              subst h
              exact hI.turn hT hR hdN ih hu hj ho2 hRo
            · have hnjp := sfx_notin _ pre ann hI.ok j h'
              rcases (hE hRo).1 j h oj (at_list hoj) with ⟨k, hk, hkp, hki⟩ | ⟨hEj, hst⟩
              · exfalso
                have hkl := hall k hk
                rcases hki with rfl | ⟨ok, hok2, hEk⟩
                · rw [hl] at hkl; cases hkl
                have hks : k < ops.size := by
                  rcases Nat.lt_or_ge k ops.size with h | h
                  · exact h
                  · rw [Array.getD_eq_getD_getElem?, Array.getElem?_eq_none (by rw [hI.size]; exact h)] at hkl; cases hkl
                rcases hI.all k hks with h | h
                · exact hkp h
                · obtain ⟨x, hx, rfl⟩ := List.mem_map.1 h
                  rcases hI.sfxU x hx with h | ⟨p, hp, he⟩
                  · rw [h] at hkl; cases hkl
                  · obtain ⟨op, hop, hEp, _⟩ := (hI.pds p hp).op
                    rw [← he, Array.getElem?_toList, hop] at hok2
                    injection hok2 with hok2
                    rw [hok2, hEk] at hEp; cases hEp
              · refine hI.early hT hR hdN ih hu hj h' hoj hEj ?_
                rcases hst with hst | hst
                · exact stE_some hst _
                · rcases hI.anns j hst with h | ⟨o2, ho3, h⟩
                  · exact absurd h hnjp
                  · rw [hoj] at ho3
                    injection ho3 with ho3
                    rw [ho3]; exact h
        · obtain ⟨pend', s', hI'⟩ := hI.named hR hp he
          exact ihs _ _ _ _ _ _ _ hu hI'
end
/-- A region that draws its order, by a schedule. -/
theorem draw_sound {ops : Array Oper} {id : Nat} {Ka : AS → Prop} {sch : List (Nat × List Nat × List Nat)} (hT : T.Ok P) (hm : P.follows .mixedOrders = true) (hs : okReg T ops.toList sch = true) (hdN : ∀ o ∈ ops.toList, okD N o = true) (hr : R P N F w0 gb0 H0 s a w) (h : rkD P T A ops.toList sch s Ka)
    (hK : ∀ s' a' w', Ka s' → R P N F w0 gb0 H0 s' a' w' → Q .normal a' w') : (Code.region id ops true).wp P Q a w := by
  obtain ⟨h1, h2, h3⟩ := okReg_spec hs
  refine wp_region_any hm (sched_any hT h3 hdN hK ops.size sch [] [] [] s _ a _ ?_ ⟨by simp, fun i hi => .inr (h2 i (by simpa using hi)), fun i o ho hl => ?_, fun x _ => .inl ?_, fun i hi => (by cases hi), ?_, fun i hi => (by cases hi), fun i hi => (by cases hi), h1, h, fun p hp => (by cases hp), fun p hp => (by cases hp), fun k hk => (by cases hk), fun k hk => (by cases hk)⟩)
  · unfold unl
    exact Nat.le_trans (List.length_filter_le _ _) (by simp)
  · have hlt := (Array.getElem?_eq_some_iff.1 ho).1
    simp [Array.getD_eq_getD_getElem?, hlt] at hl
  · rw [Array.getD_eq_getD_getElem?]
    cases hx : (Array.replicate ops.size false)[x.1]? with
    | none => rfl
    | some b =>
      have := Array.getElem?_eq_some_iff.1 hx
      obtain ⟨hlt, hb⟩ := this
      simp at hb
      rw [← hb]; rfl
  · rw [Fp_nil]
    obtain ⟨gb, g⟩ := hr
    have g1 : Good P N F w0 gb0 H0 s a { w with drawn := w.drawn + 1 } gb := g.world ((Below.refl _ w).drew)
    refine R.ext ⟨gb, g1⟩ rfl rfl fun t => .inl ?_
    rw [over_ne (fun p hp => by cases hp), get_hide, if_neg]
    unfold hid
    simp
end
end Go.Proofs.Ytheanmfdfoefoaa.Hv
set_option linter.unusedVariables false
set_option linter.unusedSimpArgs false
namespace Go.Proofs.Ytheanmfdfoefoaa.Hv
open Go Go.RowKit

inductive AEx where
  | nrm
  | ext (id : Nat)
  | ret
def AEx.sq (K : AS → Prop) (Q : AEx → AS → Prop) : AEx → AS → Prop
  | .nrm, s => K s
  | e, s => Q e s
def AEx.bl (id : Nat) (Q : AEx → AS → Prop) : AEx → AS → Prop
  | .ext i, s => bif Nat.beq i id then Q .nrm s else Q (.ext i) s
  | e, s => Q e s
def AS.keep (L : List Nat) (s : AS) : AS := ⟨L.map fun k => (k, s.get k), s.heap, s.next⟩
/-- A row is read only from here on. -/
def AS.frz1 (s : AS) (id : Nat) : AS := match s.heap id with
  | some (.row _ e items) => s.chg id (some (.frz e items))
  | _ => s
/-- A loop, to be shown by what holds at each round's head. -/
def ALoop (W : AS → (AEx → AS → Prop) → Prop) (s : AS) (Q : AEx → AS → Prop) : Prop :=
  ∃ (I : Nat → AS → Prop) (L : List Nat), (∃ n, I n (s.keep L)) ∧ ∀ n s', I n s' → W s' (AEx.sq (fun s'' => ∃ m, m < n ∧ I m (s''.keep L)) Q)
/-- A code's first region. -/
def headR : Code → Option Nat
  | .region id _ _ => some id
  | .seq x _ => headR x
  | .block _ c => headR c
  | _ => none
def stopH (l : List Nat) : Option Nat → Bool
  | some id => l.elem id
  | none => false
def stopAt : List Nat → Code → Bool
  | [], _ => false
  | a :: l, y => stopH (a :: l) (headR y)
/-- A state may be taken for another one. -/
def Gh (P : Program) (s : AS) (K : AS → Prop) : Prop := ∀ (N : Nat) (F : Nat → Nat → Prop) (w0 : World) (gb0 : Gb) (H0 : Hp) (a : Act) (w : World), R P N F w0 gb0 H0 s a w → ∃ s2, K s2 ∧ R P N F w0 gb0 H0 s2 a w
theorem Gh.now {P : Program} {s : AS} {K : AS → Prop} (h : K s) : Gh P s K := fun _ _ _ _ _ _ _ hr => ⟨s, h, hr⟩
theorem Gh.bind {P : Program} {s : AS} {K K' : AS → Prop} (h : Gh P s K) (hk : ∀ s2, K s2 → Gh P s2 K') : Gh P s K' := fun N F w0 gb0 H0 a w hr => by
  obtain ⟨s2, h2, hr2⟩ := h N F w0 gb0 H0 a w hr
  exact hk s2 h2 N F w0 gb0 H0 a w hr2
inductive KF where
  | sq (y : Code)
  | bl (id : Nat)
  | lp (J : AS → Prop)
section
variable (P : Program) (T : Tbl) (A : Vis)
def cwp : Code → AS → (AEx → AS → Prop) → Prop
  | .skip, s, Q => Q .nrm s
  | .region _ ops false, s, Q => rk P T A ops.toList ops.toList s fun s' => Q .nrm (s'.keep A.keep)
  | .region id ops true, s, Q => match lk? A.sch id with
    | some sch => rkD P T A ops.toList sch s fun s' => Q .nrm (s'.keep A.keep)
    | none => False
  | .seq x y, s, Q => match stopAt A.stops y with
    | true => ∃ (I : AS → Prop) (L : List Nat), cwp x s (AEx.sq (fun s' => I (s'.keep L)) Q) ∧ ∀ s', I s' → Gh P s' fun s2 => cwp y s2 Q
    | false => cwp x s (AEx.sq (fun s' => cwp y s' Q) Q)
  | .cond c x y, s, Q => match (s.eval c).bool? with
    | some true => cwp x s Q
    | some false => cwp y s Q
    | none => False
  | .block id c, s, Q => cwp c s (AEx.bl id Q)
  | .loop c, s, Q => ALoop (cwp c) s Q
  | .exit id, s, Q => Q (.ext id) s
  | .ret, s, Q => Q .ret s
  | .label _, s, Q => Q .nrm s
  | _, _, _ => False
def den (Q : AEx → AS → Prop) : List KF → AEx → AS → Prop
  | [] => Q
  | .sq y :: ks => AEx.sq (fun s' => cwp P T A y s' (den Q ks)) (den Q ks)
  | .bl id :: ks => AEx.bl id (den Q ks)
  | .lp J :: ks => AEx.sq J (den Q ks)
/-- A walk in two: what holds between. -/
def CutK (x y : Code) (s : AS) (Q : AEx → AS → Prop) : Prop := ∃ (I : AS → Prop) (L : List Nat), cwp P T A x s (AEx.sq (fun s' => I (s'.keep L)) Q) ∧ ∀ s', I s' → Gh P s' fun s2 => cwp P T A y s2 Q
/-- A region's way on. -/
def ron (Q : AEx → AS → Prop) : AS → Prop := fun s' => Q .nrm (s'.keep A.keep)
def CallD (f : FuncId) (as : List AV) (s : AS) (KK : Hp → Nat → AV → Prop) : Prop :=
  (∃ res, ACalls P f (as.map (AV.view s.heap)) res ∧ KK s.heap s.next res) ∨ ∃ Post, HCalls P f as s.heap s.next Post ∧ ∀ res H' n', Post res H' n' → KK H' n' res
/-- How an operation of a schedule goes on. -/
def effK (o : Oper) (s : AS) (KK : Hp → Nat → AV → Prop) : Option AS → Prop
  | some s' => KK s'.heap s'.next (dstD o s')
  | none => match o.op with
    | .call c => match callee? s c with
      | some (f, as) => CallD P f as s KK
      | none => False
    | _ => False
def contD (all : List Oper) (env : List (Nat × AV)) (d : Option Nat) (pins : List Nat) (rr : List (Nat × List Nat × List Nat)) (K : AS → Prop) : Hp → Nat → AV → Prop :=
  fun H' n' v => pinsOk T all ((⟨env, H', n'⟩ : AS).put d v) pins ∧ rkD P T A all rr ((⟨env, H', n'⟩ : AS).put d v) K
def LoopK (c : Code) (s : AS) (Q : AEx → AS → Prop) : Prop := ALoop (cwp P T A c) s Q
def CallK (all : List Oper) (d : Option Nat) (f : FuncId) (as : List AV) (r : List Oper) (s : AS) (K : AS → Prop) : Prop :=
  (∃ res, ACalls P f (as.map (AV.view s.heap)) res ∧ rk P T A all r (s.put d res) K) ∨ ∃ Post, HCalls P f as s.heap s.next Post ∧ ∀ res H' n', Post res H' n' → rk P T A all r ((⟨s.env, H', n'⟩ : AS).put d res) K
def NextK (all : List Oper) (d : Option Nat) (id m since last : Nat) (seen : List Nat) (es : List ME) (clock : Nat) (r : List Oper) (s : AS) (K : AS → Prop) : Prop :=
  (∀ e ∈ es, e.born < since) ∧ since ≤ last ∧ (leftE es seen = [] → rk P T A all r (s.put d (.tup [.lit (.bool false)])) K) ∧ ∀ e ∈ leftE es seen, rk P T A all r ((s.chg id (some (.iter (some m) since (seen ++ [e.born]) clock))).put d (.tup [.lit (.bool true), e.key, e.val])) K
/-- How an operation goes on: what it makes of the state, a call, or a step through a map. -/
def stepK (all : List Oper) (o : Oper) (r : List Oper) (s : AS) (K : AS → Prop) : Option AS → Prop
  | some s' => rk P T A all r s' K
  | none => match o.op with
    | .call c => match callee? s c with
      | some (f, as) => CallK P T A all o.dst f as r s K
      | none => False
    | .next x false => match s.eval x with
      | .ptr id 0 => match s.heap id with
        | some (.iter (some m) since seen last) => match s.heap m with
          | some (.map es clock) => NextK P T A all o.dst id m since last seen es clock r s K
          | _ => False
        | _ => False
      | _ => False
    | _ => False
end
section
variable {P : Program} {T : Tbl} {A : Vis} {Q : AEx → AS → Prop} {K : AS → Prop} {ks : List KF} {s : AS} {all r : List Oper} {o : Oper}
theorem rk_nil : rk P T A all [] s K = K s := (rfl)
theorem rk_cons : rk P T A all (o :: r) s K = match gsem all s o with
    | some true => stepK P T A all o r s K (fop T A o s)
    | some false => rk P T A all r (s.put o.dst .skip) K
    | none => False := by
  show (match gsem all s o with
    | some true => _
    | some false => _
    | none => False) = _
  split
  · unfold stepK
    cases fop T A o s with
    | some s' => rfl
    | none =>
      simp only
      cases o.op with
      | next x b => cases b <;> rfl
      | _ => rfl
  · rfl
  · rfl
theorem cwp_skip : cwp P T A .skip s Q = Q .nrm s := (rfl)
theorem cwp_region {id : Nat} {ops : Array Oper} : cwp P T A (.region id ops false) s Q = rk P T A ops.toList ops.toList s (ron A Q) := (rfl)
theorem cwp_draw {id : Nat} {ops : Array Oper} : cwp P T A (.region id ops true) s Q = match lk? A.sch id with
    | some sch => rkD P T A ops.toList sch s (ron A Q)
    | none => False := (rfl)
theorem rkD_nil : rkD P T A all [] s K = K s := (rfl)
theorem rkD_cons {i : Nat} {pins done : List Nat} {rr : List (Nat × List Nat × List Nat)} : rkD P T A all ((i, pins, done) :: rr) s K = match all[i]? with
    | some o => bif isR T o then (match gdval T all s o with
      | some v => (match pins with
        | [] => rkD P T A all rr (s.put o.dst v) K
        | k :: ks => annOk T A all (s.put o.dst v) (k :: ks) ∧ rkD P T A all rr (s.put o.dst v) K)
      | none => False) else (match gsem all s o with
        | some true => effK P o s (contD P T A all s.env o.dst pins rr K) (fop T A o s)
        | some false => contD P T A all s.env o.dst pins rr K s.heap s.next .skip
        | none => False)
    | none => False := by
  show (match all[i]? with
    | some o => _
    | none => False) = _
  split
  · rename_i o ho
    cases isR T o with
    | true => rfl
    | false =>
      simp only [cond_false]
      unfold geff
      cases gsem all s o with
      | none => rfl
      | some b =>
        cases b with
        | false => rfl
        | true =>
          simp only
          unfold eff1 effK
          cases fop T A o s <;> rfl
  · rfl
theorem contD_at {env : List (Nat × AV)} {d : Option Nat} {pins : List Nat} {rr : List (Nat × List Nat × List Nat)} {H' : Hp} {n' : Nat} {v : AV} : contD P T A all env d pins rr K H' n' v = (pinsOk T all ((⟨env, H', n'⟩ : AS).put d v) pins ∧ rkD P T A all rr ((⟨env, H', n'⟩ : AS).put d v) K) := (rfl)
theorem callD {f : FuncId} {as : List AV} {KK : Hp → Nat → AV → Prop} {res : AV} (h : ACalls P f (as.map (AV.view s.heap)) res) (k : KK s.heap s.next res) : CallD P f as s KK := .inl ⟨res, h, k⟩
theorem callHD {f : FuncId} {as : List AV} {KK : Hp → Nat → AV → Prop} {Post : AV → Hp → Nat → Prop} (h : HCalls P f as s.heap s.next Post) (k : ∀ res H' n', Post res H' n' → KK H' n' res) : CallD P f as s KK := .inr ⟨Post, h, k⟩
theorem ron_at : ron A Q s = Q .nrm (s.keep A.keep) := (rfl)
theorem cwp_seq {x y : Code} : cwp P T A (.seq x y) s (den P T A Q ks) = match stopAt A.stops y with
    | true => CutK P T A x y s (den P T A Q ks)
    | false => cwp P T A x s (den P T A Q (.sq y :: ks)) := (rfl)
theorem stopAt_nil {y : Code} : stopAt [] y = false := (rfl)
theorem stopAt_cons {a : Nat} {l : List Nat} {y : Code} : stopAt (a :: l) y = stopH (a :: l) (headR y) := (rfl)
theorem stopH_some {l : List Nat} {id : Nat} : stopH l (some id) = l.elem id := (rfl)
theorem stopH_none {l : List Nat} : stopH l none = false := (rfl)
theorem headR_region {id : Nat} {ops : Array Oper} {d : Bool} : headR (.region id ops d) = some id := (rfl)
theorem headR_seq {x y : Code} : headR (.seq x y) = headR x := (rfl)
theorem headR_block {id : Nat} {c : Code} : headR (.block id c) = headR c := (rfl)
theorem headR_cond {c : Operand} {x y : Code} : headR (.cond c x y) = none := (rfl)
theorem headR_loop {c : Code} : headR (.loop c) = none := (rfl)
theorem headR_skip : headR .skip = none := (rfl)
theorem headR_exit {id : Nat} : headR (.exit id) = none := (rfl)
theorem headR_ret : headR .ret = none := (rfl)
theorem headR_label {l : Nat} : headR (.label l) = none := (rfl)
/-- The walk is cut in two: what holds between, of these slots. -/
theorem cutK {x y : Code} (I : AS → Prop) (L : List Nat) (h1 : cwp P T A x s (den P T A Q (.lp (fun s' => I (s'.keep L)) :: ks))) (h2 : ∀ s', I s' → cwp P T A y s' (den P T A Q ks)) : CutK P T A x y s (den P T A Q ks) := ⟨I, L, h1, fun s' hs => .now (h2 s' hs)⟩
/-- .. and the state between may be taken for another one. -/
theorem cutG {x y : Code} (I : AS → Prop) (L : List Nat) (h1 : cwp P T A x s (den P T A Q (.lp (fun s' => I (s'.keep L)) :: ks))) (h2 : ∀ s', I s' → Gh P s' fun s2 => cwp P T A y s2 (den P T A Q ks)) : CutK P T A x y s (den P T A Q ks) := ⟨I, L, h1, h2⟩
theorem cwp_block {id : Nat} {c : Code} : cwp P T A (.block id c) s (den P T A Q ks) = cwp P T A c s (den P T A Q (.bl id :: ks)) := (rfl)
theorem cwp_cond {c : Operand} {x y : Code} : cwp P T A (.cond c x y) s Q = match (s.eval c).bool? with
    | some true => cwp P T A x s Q
    | some false => cwp P T A y s Q
    | none => False := (rfl)
theorem cwp_loop {c : Code} : cwp P T A (.loop c) s Q = LoopK P T A c s Q := (rfl)
theorem cwp_exit {id : Nat} : cwp P T A (.exit id) s Q = Q (.ext id) s := (rfl)
theorem cwp_ret : cwp P T A .ret s Q = Q .ret s := (rfl)
theorem cwp_label {l : Nat} : cwp P T A (.label l) s Q = Q .nrm s := (rfl)
theorem den_nil {e : AEx} : den P T A Q [] e s = Q e s := (rfl)
theorem den_sq_nrm {y : Code} : den P T A Q (.sq y :: ks) .nrm s = cwp P T A y s (den P T A Q ks) := (rfl)
theorem den_sq_ret {y : Code} : den P T A Q (.sq y :: ks) .ret s = den P T A Q ks .ret s := (rfl)
theorem den_sq_ext {y : Code} {i : Nat} : den P T A Q (.sq y :: ks) (.ext i) s = den P T A Q ks (.ext i) s := (rfl)
theorem den_bl_nrm {id : Nat} : den P T A Q (.bl id :: ks) .nrm s = den P T A Q ks .nrm s := (rfl)
theorem den_bl_ret {id : Nat} : den P T A Q (.bl id :: ks) .ret s = den P T A Q ks .ret s := (rfl)
theorem den_bl_ext {id i : Nat} : den P T A Q (.bl id :: ks) (.ext i) s = bif Nat.beq i id then den P T A Q ks .nrm s else den P T A Q ks (.ext i) s := (rfl)
theorem den_lp_nrm {J : AS → Prop} : den P T A Q (.lp J :: ks) .nrm s = J s := (rfl)
theorem den_lp_ret {J : AS → Prop} : den P T A Q (.lp J :: ks) .ret s = den P T A Q ks .ret s := (rfl)
theorem den_lp_ext {J : AS → Prop} {i : Nat} : den P T A Q (.lp J :: ks) (.ext i) s = den P T A Q ks (.ext i) s := (rfl)
theorem loopK {c : Code} (I : Nat → AS → Prop) (n : Nat) (L : List Nat) (h0 : I n (s.keep L)) (h : ∀ n s', I n s' → cwp P T A c s' (den P T A Q (.lp (fun s'' => ∃ m, m < n ∧ I m (s''.keep L)) :: ks))) : LoopK P T A c s (den P T A Q ks) :=
  ⟨I, L, ⟨n, h0⟩, h⟩
/-- A call that changes nothing. -/
theorem callK {d : Option Nat} {f : FuncId} {as : List AV} {res : AV} (h : ACalls P f (as.map (AV.view s.heap)) res) (k : rk P T A all r (s.put d res) K) : CallK P T A all d f as r s K := .inl ⟨res, h, k⟩
/-- A call over the heap. -/
theorem callH {d : Option Nat} {f : FuncId} {as : List AV} {Post : AV → Hp → Nat → Prop} (h : HCalls P f as s.heap s.next Post) (k : ∀ res H' n', Post res H' n' → rk P T A all r ((⟨s.env, H', n'⟩ : AS).put d res) K) : CallK P T A all d f as r s K := .inr ⟨Post, h, k⟩
theorem nextK {d : Option Nat} {id m since last : Nat} {seen : List Nat} {es : List ME} {clock : Nat} (h1 : ∀ e ∈ es, e.born < since) (h2 : since ≤ last) (h3 : leftE es seen = [] → rk P T A all r (s.put d (.tup [.lit (.bool false)])) K)
    (h4 : ∀ e ∈ leftE es seen, rk P T A all r ((s.chg id (some (.iter (some m) since (seen ++ [e.born]) clock))).put d (.tup [.lit (.bool true), e.key, e.val])) K) : NextK P T A all d id m since last seen es clock r s K := ⟨h1, h2, h3, h4⟩
theorem meetG {a b : Prop} (f : a → b) (x : a) : b := f x
end
def okC (T : Tbl) (A : Vis) (N : Nat) : Code → Bool
  | .region id ops draw => ops.toList.all (okD N) && (!draw || match lk? A.sch id with | some sch => okReg T ops.toList sch | none => true)
  | .seq x y => okC T A N x && okC T A N y
  | .cond _ x y => okC T A N x && okC T A N y
  | .block _ c => okC T A N c
  | .loop c => okC T A N c
  | _ => true
def toE : AEx → Exit | .nrm => .normal | .ext i => .exit i | .ret => .ret
theorem wp_loopn {P : Program} {c : Code} {Q : Exit → Act → World → Prop} {a : Act} {w : World} (I : Nat → Act → World → Prop) (n : Nat) (h₀ : I n a w)
    (round : ∀ n a w, I n a w → c.wp P (Exit.then (fun a' w' => ∃ m, m < n ∧ I m a' w') Q) a w) : (Code.loop c).wp P Q a w := by
  intro b k cs
  have key : ∀ n a w, I n a w → ∃ e a' w', Q e a' w' ∧ Arrives P (lone (b.at a (.code c :: .inLoop c :: k)) cs w) b k cs e a' w' := by
    intro n
    induction n using Nat.strongRecOn with
    | _ n ih =>
      intro a w hI
      obtain ⟨e, a₁, w₁, hq, harr⟩ := round n a w hI b (.inLoop c :: k) cs
      cases e with
      | normal =>
        obtain ⟨m, hlt, hI₁⟩ := hq
        obtain ⟨e₂, a₂, w₂, hq₂, harr₂⟩ := ih m hlt a₁ w₁ hI₁
        exact ⟨e₂, a₂, w₂, hq₂, .of_steps (Steps.trans harr (.one step_inLoop)) harr₂⟩
      | exit id => exact ⟨_, a₁, w₁, hq, .pass (x := .inLoop c) rfl (fun _ _ => .inl (by simp)) harr⟩
      | goto l => exact ⟨_, a₁, w₁, hq, .pass (x := .inLoop c) rfl (fun _ _ => .inl (by simp)) harr⟩
      | ret => exact ⟨_, a₁, w₁, hq, .pass (x := .inLoop c) rfl (fun _ _ => .inl (by simp)) harr⟩
      | panic ch => exact ⟨_, a₁, w₁, hq, .pass (x := .inLoop c) rfl (fun _ _ => .inl (by simp)) harr⟩
      | outgrown => exact ⟨_, a₁, w₁, hq, .pass (x := .inLoop c) rfl (fun _ _ => .inl (by simp)) harr⟩
  obtain ⟨e, a', w', hq, harr⟩ := key _ a w h₀
  exact ⟨e, a', w', hq, .of_steps (.one step_loop) harr⟩
section
variable {P : Program} {T : Tbl} {A : Vis} {N : Nat} {F : Nat → Nat → Prop} {w0 w w' : World} {gb0 gb gb' : Gb} {H0 H H' : Hp} {s s' : AS} {a : Act}
theorem lkp_keep (L : List Nat) (s : AS) (t : Nat) : (s.keep L).get t = s.get t ∨ (s.keep L).get t = .dead := by
  show lkp .dead (L.map fun k => (k, s.get k)) t = s.get t ∨ lkp .dead (L.map fun k => (k, s.get k)) t = .dead
  induction L with
  | nil => exact .inr rfl
  | cons k L ih =>
    simp only [List.map_cons, lkp]
    cases hb : Nat.beq k t with
    | true =>
      have := Nat.eq_of_beq_eq_true hb
      subst this
      exact .inl rfl
    | false => exact ih
theorem R.keep (L : List Nat) (h : R P N F w0 gb0 H0 s a w) : R P N F w0 gb0 H0 (s.keep L) a w := by
  obtain ⟨gb, g⟩ := h
  refine ⟨gb, g.kept, g.ext, g.ok, g.wr0, g.x0, g.size, g.defers, fun t => ?_⟩
  rcases lkp_keep L s t with h | h <;> rw [h]
  · exact g.slots t
  · exact .dead _
theorem cwp_sound (hT : T.Ok P) (hm : P.follows .mixedOrders = true) : ∀ (c : Code), okC T A N c = true → ∀ {s : AS} {a : Act} {w : World} {Qa : AEx → AS → Prop} {Q : Exit → Act → World → Prop}, R P N F w0 gb0 H0 s a w → cwp P T A c s Qa → (∀ e s' a' w', Qa e s' → R P N F w0 gb0 H0 s' a' w' → Q (toE e) a' w') → c.wp P Q a w := by
  intro c
  induction c with
  | skip => intro _ s a w Qa Q hr h hQ; exact wp_skip (hQ .nrm _ _ _ h hr)
  | region id ops draw =>
    intro hok s a w Qa Q hr h hQ
    simp only [okC, Bool.and_eq_true] at hok
    cases draw with
    | true =>
      unfold cwp at h
      cases hl : lk? A.sch id with
      | none => rw [hl] at h; exact h.elim
      | some sch =>
        rw [hl] at h
        rw [hl] at hok
        exact draw_sound hT hm (by simpa using hok.2) (fun o ho => List.all_eq_true.1 hok.1 o ho) hr h fun s' a' w' hs hr' => hQ .nrm _ _ _ hs (hr'.keep A.keep)
    | false =>
      exact wp_region_list (rk_sound hT ops.toList (fun o ho => List.all_eq_true.1 hok.1 o ho) hr h fun s' a' w' hs hr' => hQ .nrm _ _ _ hs (hr'.keep A.keep))
  | seq x y ihx ihy =>
    intro hok s a w Qa Q hr h hQ
    simp only [okC, Bool.and_eq_true] at hok
    unfold cwp at h
    cases hst : stopAt A.stops y with
    | false =>
      rw [hst] at h
      refine wp_seq (ihx hok.1 hr h fun e s' a' w' hs hr' => ?_)
      cases e with
      | nrm => exact ihy hok.2 hr' hs hQ
      | ext i => exact hQ (.ext i) _ _ _ hs hr'
      | ret => exact hQ .ret _ _ _ hs hr'
    | true =>
      rw [hst] at h
      obtain ⟨I, L, h1, h2⟩ := h
      refine wp_seq (ihx hok.1 hr h1 fun e s' a' w' hs hr' => ?_)
      cases e with
      | nrm =>
        obtain ⟨s2, hs2, hr2⟩ := h2 _ hs _ _ _ _ _ _ _ (hr'.keep L)
        exact ihy hok.2 hr2 hs2 hQ
      | ext i => exact hQ (.ext i) _ _ _ hs hr'
      | ret => exact hQ .ret _ _ _ hs hr'
  | cond c x y ihx ihy =>
    intro hok s a w Qa Q hr h hQ
    simp only [okC, Bool.and_eq_true] at hok
    unfold cwp at h
    obtain ⟨gb, g⟩ := hr
    cases hb : (s.eval c).bool? with
    | none => rw [hb] at h; exact h.elim
    | some b =>
      rw [hb] at h
      have hc := rep_bool (g.eval c) hb
      cases b with
      | true => exact wp_cond_true hc (ihx hok.1 ⟨gb, g⟩ h hQ)
      | false => exact wp_cond_false hc (ihy hok.2 ⟨gb, g⟩ h hQ)
  | block id c ih =>
    intro hok s a w Qa Q hr h hQ
    refine wp_block (ih hok hr h fun e s' a' w' hs hr' => ?_)
    cases e with
    | nrm => exact hQ .nrm _ _ _ hs hr'
    | ret => exact hQ .ret _ _ _ hs hr'
    | ext i =>
      replace hs : (bif Nat.beq i id then Qa .nrm s' else Qa (.ext i) s') := hs
      show if i = id then Q .normal a' w' else Q (.exit i) a' w'
      cases hb : Nat.beq i id with
      | true =>
        rw [hb] at hs
        rw [if_pos (Nat.eq_of_beq_eq_true hb)]
        exact hQ .nrm _ _ _ hs hr'
      | false =>
        rw [hb] at hs
        rw [if_neg (fun e => by rw [e] at hb; simp at hb)]
        exact hQ (.ext i) _ _ _ hs hr'
  | loop c ih =>
    intro hok s a w Qa Q hr h hQ
    obtain ⟨I, L, ⟨n, hn⟩, hI⟩ := h
    refine wp_loopn (fun n a w => ∃ s, I n s ∧ R P N F w0 gb0 H0 s a w) n ⟨_, hn, hr.keep L⟩ fun n a w ⟨s, hs, hr⟩ => ih hok hr (hI n s hs) fun e s' a' w' hs hr' => ?_
    cases e with
    | nrm =>
      obtain ⟨m, hm, hs⟩ := hs
      exact ⟨m, hm, _, hs, hr'.keep L⟩
    | ext i => exact hQ (.ext i) _ _ _ hs hr'
    | ret => exact hQ .ret _ _ _ hs hr'
  | exit id => intro _ s a w Qa Q hr h hQ; exact wp_exit (hQ (.ext id) _ _ _ h hr)
  | ret => intro _ s a w Qa Q hr h hQ; exact wp_ret (hQ .ret _ _ _ h hr)
  | label l => intro _ s a w Qa Q hr h hQ; exact wp_label (hQ .nrm _ _ _ h hr)
  | _ => intro _ s a w Qa Q hr h hQ; exact h.elim
end
end Go.Proofs.Ytheanmfdfoefoaa.Hv
set_option linter.unusedVariables false
set_option linter.unusedSimpArgs false
namespace Go.Proofs.Ytheanmfdfoefoaa.Hv
open Go Go.RowKit

theorem beqE (a b : Nat) : Nat.beq a b = (a == b) := by rw [Bool.eq_iff_iff]; simp
theorem range0 : List.range 0 = [] := rfl
theorem range1 : List.range 1 = [0] := rfl
theorem range2 : List.range 2 = [0, 1] := rfl
theorem range3 : List.range 3 = [0, 1, 2] := rfl
theorem beq_tf : (true == false) = false := rfl
theorem beq_ft : (false == true) = false := rfl
theorem elem_cons (a b : Nat) (l : List Nat) : (b :: l).elem a = bif Nat.beq a b then true else l.elem a := by
  rw [List.elem_cons, beqE]
  cases a == b <;> rfl
theorem lk_nil {α : Type} (n : Nat) : lk? ([] : List (Nat × α)) n = none := rfl
theorem lk_cons {α : Type} (k n : Nat) (v : α) (l : List (Nat × α)) : lk? ((k, v) :: l) n = bif Nat.beq k n then some v else lk? l n := rfl
theorem ble_self (n : Nat) : Nat.ble n n = true := Nat.ble_self_eq_true n
theorem take_map_all {α β : Type} (l : List α) (f : α → β) : (l.map f).take l.length = l.map f := List.take_of_length_le (by simp)
theorem elem_nil (a : Nat) : ([] : List Nat).elem a = false := rfl
/-- It names no object. -/
inductive NoId : AV → Prop
  | lit (v : Value) : NoId (.lit v)
  | agg (cs : List AV) (h : ∀ c ∈ cs, NoId c) : NoId (.agg cs)
  | tup (cs : List AV) (h : ∀ c ∈ cs, NoId c) : NoId (.tup cs)
  | sl (items : List (List AV)) (h : ∀ it ∈ items, ∀ c ∈ it, NoId c) : NoId (.sl items)
  | ref (cs : List AV) (h : ∀ c ∈ cs, NoId c) : NoId (.ref cs)
  | fn (f : FuncId) (cs : List AV) (h : ∀ c ∈ cs, NoId c) : NoId (.fn f cs)
theorem noId_lit {v : Value} : NoId (.lit v) = True := eq_true (.lit v)
theorem noId_agg {cs : List AV} : NoId (.agg cs) = ∀ c ∈ cs, NoId c := propext ⟨fun h => by cases h; assumption, .agg cs⟩
theorem noId_tup {cs : List AV} : NoId (.tup cs) = ∀ c ∈ cs, NoId c := propext ⟨fun h => by cases h; assumption, .tup cs⟩
theorem noId_sl {items : List (List AV)} : NoId (.sl items) = ∀ it ∈ items, ∀ c ∈ it, NoId c := propext ⟨fun h => by cases h; assumption, .sl items⟩
theorem noId_ref {cs : List AV} : NoId (.ref cs) = ∀ c ∈ cs, NoId c := propext ⟨fun h => by cases h; assumption, .ref cs⟩
theorem Rep.noId {w : World} {W : Nat → Nat → Prop} {gb gb' : Gb} {x : AV} {v : Value} (h : Rep w W gb x v) (hn : NoId x) : Rep w W gb' x v := by
  induction h with
  | lit v => exact .lit v
  | agg cs vs hl h1 _ ih =>
    cases hn with
    | agg _ hc => exact .agg cs vs hl h1 fun j c u hj hu => ih j c u hj hu (hc c (List.mem_of_getElem? hj))
  | tup cs vs hl _ ih =>
    cases hn with
    | tup _ hc => exact .tup cs vs hl fun j c u hj hu => ih j c u hj hu (hc c (List.mem_of_getElem? hj))
  | sl items sz A c b off val hi hc hm ha hcell hF h1 _ ih =>
    cases hn with
    | sl _ hn =>
      refine .sl items sz A c b off val hi hc hm ha hcell hF h1 fun j x hx => ih j x hx ?_
      obtain ⟨it, hit, hxi⟩ := List.mem_flatten.1 (List.mem_of_getElem? hx)
      exact hn it hit x hxi
  | ref cs b off val hcell hF h1 _ ih =>
    cases hn with
    | ref _ hc => exact .ref cs b off val hcell hF h1 fun j c hj => ih j c hj (hc c (List.mem_of_getElem? hj))
  | fn f cs vs hl _ ih =>
    cases hn with
    | fn _ _ hc => exact .fn f cs vs hl fun j c u hj hu => ih j c u hj hu (hc c (List.mem_of_getElem? hj))
  | _ => cases hn
def retA (ts : List Nat) (f : Nat → AV) : AV := match ts with | [t] => f t | ts => .tup (ts.map f)
def rets (s : AS) (ts : List Nat) : AV := retA ts s.get
/-- All rows are from here on for reading and appending only. -/
def sealO : Option AO → Option AO
  | some (.row _ e items) => some (.row false e items)
  | o => o
def sealH (H : Hp) : Hp := fun id => sealO (H id)
theorem exO_seal (o : Option AO) : exO (sealO o) = exO o := by
  match o with
  | none => rfl
  | some (.cells _) => rfl
  | some (.row _ _ _) => rfl
  | some (.frz _ _) => rfl
  | some (.map _ _) => rfl
  | some (.iter _ _ _ _) => rfl
theorem wrO_seal {o : Option AO} {k : Nat} (h : wrO (sealO o) k) : wrO o k := by
  match o with
  | none => exact h
  | some (.cells _) => exact h
  | some (.row true _ _) => exact trivial
  | some (.row false _ _) => exact h
  | some (.frz _ _) => exact h
  | some (.map _ _) => exact h
  | some (.iter _ _ _ _) => exact h
theorem Xh_seal {gb : Gb} {H : Hp} {b : Nat} (h : Xh gb (sealH H) b) : Xh gb H b := by
  obtain ⟨id, s, h1, h2⟩ := h
  exact ⟨id, s, h1, by rw [← exO_seal]; exact h2⟩
theorem Wr_seal {F : Nat → Nat → Prop} {gb : Gb} {H : Hp} {b o : Nat} (h : Wr F gb (sealH H) b o) : Wr F gb H b o := by
  rcases h with h | ⟨id, s, h1, h2⟩
  · exact .inl h
  · exact .inr ⟨id, s, h1, wrO_seal h2⟩
theorem Rep.less {w : World} {W W' : Nat → Nat → Prop} {gb : Gb} {x : AV} {v : Value} (h : Rep w W gb x v) (hw : ∀ b o, W' b o → W b o) : Rep w W' gb x v :=
  h.keep (fun b o u hn hc => ⟨hc, fun h' => hn (hw b o h')⟩) (Ext.refl _)
theorem RepL.less {w : World} {W W' : Nat → Nat → Prop} {gb : Gb} {cs : List AV} {us : List Value} (h : RepL w W gb cs us) (hw : ∀ b o, W' b o → W b o) : RepL w W' gb cs us :=
  h.keep (fun b o u hn hc => ⟨hc, fun h' => hn (hw b o h')⟩) (Ext.refl _)
theorem HeapOk.seal {P : Program} {w : World} {F : Nat → Nat → Prop} {gb : Gb} {H : Hp} {n : Nat} (h : HeapOk P w F gb H n) : HeapOk P w F gb (sealH H) n := by
  refine ⟨h.lt, fun id hn => by unfold sealH; rw [h.new id hn]; rfl, fun id o ho => ?_, fun i j g s t hi hj hx hy => h.one i j g s t hi hj (by rw [← exO_seal]; exact hx) (by rw [← exO_seal]; exact hy), h.FB, fun b o hf hx => h.FX b o hf (Xh_seal hx)⟩
  have hW : ∀ b o, Wr F gb (sealH H) b o → Wr F gb H b o := fun b o => Wr_seal
  unfold sealH at ho
  cases hH : H id with
  | none => rw [hH] at ho; cases ho
  | some x =>
    rw [hH] at ho
    have hl := h.live id x hH
    rcases hl with ⟨g, size, hg, hl⟩ | ⟨hg, m, e, rfl⟩
    · refine .inl ⟨g, size, hg, ?_⟩
      cases x with
      | cells cs =>
        injection ho with ho; subst ho
        obtain ⟨cur, e, fr, h1, h2, h3, h4⟩ := hl
        exact ⟨cur, e, fr, h1, h2, h3, h4.less hW⟩
      | row m e items =>
        injection ho with ho; subst ho
        obtain ⟨h0, cur, fr, h1, h2, h3, h4, h5⟩ := hl
        exact ⟨h0, cur, fr, h1, h2, h3, h4, h5.less hW⟩
      | frz e items =>
        injection ho with ho; subst ho
        obtain ⟨h0, cur, fr, h1, h2, h3, h4, h5, h6⟩ := hl
        exact ⟨h0, cur, fr, h1, h2, h3, h4, h5.less hW, fun o ho hw => h6 o ho (hW _ _ hw)⟩
      | map es clock =>
        injection ho with ho; subst ho
        obtain ⟨ents, h1, h2, h3⟩ := hl
        exact ⟨ents, h1, h2, fun j e x he hx => ⟨(h3 j e x he hx).born, (h3 j e x he hx).key.less hW, (h3 j e x he hx).val.less hW⟩⟩
      | iter m since seen last =>
        injection ho with ho; subst ho
        exact hl
    · injection ho with ho; subst ho
      exact .inr ⟨hg, false, e, rfl⟩
def retv (s : AS) (ts : List Nat) : AV := retA ts fun t => (s.get t).view (sealH s.heap)
def HPost (ts : List Nat) (Post : AV → Hp → Nat → Prop) : AEx → AS → Prop
  | .ext _, _ => False
  | _, s => Post (rets s ts) s.heap s.next
def APost (ts : List Nat) (res : AV) : AEx → AS → Prop
  | .ext _, _ => False
  | _, s => retv s ts = res
def beginF : Nat → List AV → List (Nat × AV)
  | _, [] => []
  | k, a :: as => (k, a) :: beginF (k + 1) as
theorem lkp_zip (as : List AV) : ∀ (k t : Nat), lkp AV.dead (beginF k as) t = if k ≤ t then (as[t - k]?).getD .dead else .dead := by
  induction as with
  | nil => intro k t; simp [lkp, beginF]
  | cons a as ih =>
    intro k t
    show (bif Nat.beq k t then a else lkp .dead (beginF (k + 1) as) t) = _
    rw [ih]
    cases hb : Nat.beq k t with
    | true =>
      have := Nat.eq_of_beq_eq_true hb
      subst this
      simp
    | false =>
      have hne : k ≠ t := fun e => by subst e; simp at hb
      by_cases h : k ≤ t
      · obtain ⟨j, hj⟩ : ∃ j, t - k = j + 1 := ⟨t - k - 1, by omega⟩
        rw [cond_false, if_pos (by omega), if_pos h, hj, show t - (k + 1) = j from by omega]
        rfl
      · rw [cond_false, if_neg (by omega), if_neg h]
theorem get_begin (as : List AV) (H : Hp) (n t : Nat) : (⟨beginF 0 as, H, n⟩ : AS).get t = (as[t]?).getD .dead := by
  have := lkp_zip as 0 t
  unfold AS.get
  rw [this]
  simp
section
variable {P : Program} {T : Tbl} {N : Nat} {F W : Nat → Nat → Prop} {w w' : World} {gb gb' : Gb} {H H' : Hp} {n n' : Nat} {s : AS} {a : Act}
theorem begin_good {as : List AV} {vs : List Value} {N : Nat} (hok : HeapOk P w F gb H n) (hl : as.length = vs.length) (hn : as.length ≤ N) (hr : ∀ (j : Nat) (x : AV) (v : Value), as[j]? = some x → vs[j]? = some v → Rep w (Wr F gb H) gb x v) :
    Good P N F w gb H ⟨beginF 0 as, H, n⟩ { tmps := vs.toArray ++ Array.replicate (N - vs.toArray.size) undef, defers := [] } w gb := by
  have hsz : vs.toArray.size = vs.length := by simp
  refine ⟨Kept.refl _ _ _, Ext.refl _, hok, fun _ _ _ h => h, fun _ _ h => h, by simp; omega, rfl, fun t => ?_⟩
  rw [get_begin]
  by_cases ht : t < as.length
  · rw [List.getElem?_eq_getElem ht]
    have hv : (vs.toArray ++ Array.replicate (N - vs.toArray.size) undef).getD t undef = vs[t]'(by omega) := by
      rw [Array.getD_eq_getD_getElem?, Array.getElem?_append_left (by simp; omega)]
      simp [show t < vs.length by omega]
    rw [hv]
    exact hr t _ _ (List.getElem?_eq_getElem ht) (List.getElem?_eq_getElem (by omega))
  · rw [List.getElem?_eq_none (by omega)]
    exact .dead _
theorem results_nil {fn : Func} (hr : fn.results = #[]) (tmps : Array Value) (w : World) : (results fn tmps).run P w = .ok (.tuple #[]) w := by
  unfold results
  simp [hr]
theorem tup_of {ts : List Nat} {f : Nat → AV} {g : Nat → Value} (h : ∀ t, Rep w W gb (f t) (g t)) : Rep w W gb (.tup (ts.map f)) (.tuple (ts.map g).toArray) := by
  refine Rep.tup _ _ (by simp) fun j c u hc hu => ?_
  rw [List.getElem?_map, Option.map_eq_some_iff] at hc hu
  obtain ⟨t, ht, rfl⟩ := hc
  obtain ⟨t', ht', rfl⟩ := hu
  rw [ht] at ht'
  injection ht' with ht'
  subst ht'
  exact h t
def retOf (ts : List Nat) (tmps : Array Value) : Value := match ts with | [t] => tmps.getD t undef | ts => .tuple (ts.map fun t => tmps.getD t undef).toArray
theorem results_of {fn : Func} {ts : List Nat} (hr : fn.results = (ts.map ResultVar.tmp).toArray) (hl : ts.length ≤ 3) (tmps : Array Value) (w : World) : (results fn tmps).run P w = .ok (retOf ts tmps) w := by
  match ts, hl, hr with
  | [], _, hr => exact results_nil hr tmps w
  | [t], _, hr => exact results_tmp hr _ _ _
  | [t, u], _, hr => exact results_tmp2 hr _ _ _
  | [t, u, x], _, hr => exact results_tmp3 hr _ _ _
  | _ :: _ :: _ :: _ :: _, hl, _ => simp at hl
/-- A result: a slot's value, or what its variable holds. -/
def fetch (T : Tbl) (H : Hp) (f : Nat → AV) : ResultVar → Option AV
  | .tmp t => some (f t)
  | .cell t ty => rdAt T H ty (f t)
def fetchs (T : Tbl) (H : Hp) (f : Nat → AV) : List ResultVar → Option (List AV)
  | [] => some []
  | r :: rs => match fetch T H f r, fetchs T H f rs with
    | some v, some vs => some (v :: vs)
    | _, _ => none
def retC (T : Tbl) (H : Hp) (f : Nat → AV) (rs : List ResultVar) : Option AV := match rs with
  | [r] => fetch T H f r
  | rs => match fetchs T H f rs with
    | some vs => some (.tup vs)
    | none => none
def HPostC (T : Tbl) (rs : List ResultVar) (Post : AV → Hp → Nat → Prop) : AEx → AS → Prop
  | .ext _, _ => False
  | _, s => match retC T s.heap s.get rs with
    | some v => Post v s.heap s.next
    | none => False
def APostC (T : Tbl) (rs : List ResultVar) (res : AV) : AEx → AS → Prop
  | .ext _, _ => False
  | _, s => match retC T s.heap s.get rs with
    | some v => v.viewR (sealH s.heap) = res
    | none => False
def oneRes (rv : ResultVar) (tmps : Array Value) : Sem Value := match rv with
  | .tmp t => pure (tmps.getD t undef)
  | .cell a t => do loadVar t (← asAddr (tmps.getD a undef))
theorem results_is (fn : Func) (tmps : Array Value) : results fn tmps = (do
    let vs ← fn.results.mapM fun r => oneRes r tmps
    pure (if h : vs.size = 1 then vs[0] else .tuple vs)) := by
  unfold results oneRes
  congr 1
theorem run_fetch {T : Tbl} {rv : ResultVar} {f : Nat → AV} {tmps : Array Value} {v : AV} (hT : T.Ok P) (hok : HeapOk P w F gb H n) (hs : ∀ t, Rep w (Wr F gb H) gb (f t) (tmps.getD t undef)) (h : fetch T H f rv = some v) : ∃ u, (oneRes rv tmps).run P w = .ok u w ∧ Rep w (Wr F gb H) gb v u := by
  cases rv with
  | tmp t =>
    simp only [fetch, Option.some.injEq] at h
    subst h
    exact ⟨_, rfl, hs t⟩
  | cell t ty =>
    obtain ⟨A, u, hv, hrun, hrep⟩ := run_rdAt hT h hok (hs t)
    refine ⟨u, ?_, hrep⟩
    simp only [oneRes, Sem.run_bind, hv]
    exact hrun
theorem run_fetchs {T : Tbl} {f : Nat → AV} {tmps : Array Value} (hT : T.Ok P) (hok : HeapOk P w F gb H n) (hs : ∀ t, Rep w (Wr F gb H) gb (f t) (tmps.getD t undef)) : ∀ {rs : List ResultVar} {vs : List AV}, fetchs T H f rs = some vs →
    ∃ us : List Value, ((rs.mapM fun r => oneRes r tmps) : Sem (List Value)).run P w = .ok us w ∧ vs.length = us.length ∧ ∀ (j : Nat) (c : AV) (u : Value), vs[j]? = some c → us[j]? = some u → Rep w (Wr F gb H) gb c u := by
  intro rs
  induction rs with
  | nil =>
    intro vs h
    simp only [fetchs, Option.some.injEq] at h
    subst h
    exact ⟨[], by simp, rfl, fun j c u h => by simp at h⟩
  | cons r rs ih =>
    intro vs h
    simp only [fetchs] at h
    split at h
    · rename_i v vs' h1 h2
      simp only [Option.some.injEq] at h
      subst h
      obtain ⟨u, e1, r1⟩ := run_fetch hT hok hs h1
      obtain ⟨us, e2, hl, r2⟩ := ih h2
      refine ⟨u :: us, ?_, by simp [hl], fun j c y hc hy => ?_⟩
      · rw [List.mapM_cons]
        simp only [Sem.run_bind, e1, Result.andThen_ok, e2, Sem.run_pure]
      · cases j with
        | zero => simp only [List.getElem?_cons_zero, Option.some.injEq] at hc hy; subst hc hy; exact r1
        | succ j => exact r2 j c y (by simpa using hc) (by simpa using hy)
    · cases h
theorem run_retC {T : Tbl} {fn : Func} {rs : List ResultVar} {f : Nat → AV} {tmps : Array Value} {v : AV} (hT : T.Ok P) (hr : fn.results = rs.toArray) (hok : HeapOk P w F gb H n) (hs : ∀ t, Rep w (Wr F gb H) gb (f t) (tmps.getD t undef)) (h : retC T H f rs = some v) : ∃ u, (results fn tmps).run P w = .ok u w ∧ Rep w (Wr F gb H) gb v u := by
  have all : ∀ vs, fetchs T H f rs = some vs → ∃ us : List Value, ((fn.results.mapM fun r => oneRes r tmps) : Sem (Array Value)).run P w = .ok us.toArray w ∧ vs.length = us.length ∧ ∀ (j : Nat) (c : AV) (u : Value), vs[j]? = some c → us[j]? = some u → Rep w (Wr F gb H) gb c u := fun vs hv => by
    obtain ⟨us, e, hl, hrep⟩ := run_fetchs hT hok hs hv
    refine ⟨us, ?_, hl, hrep⟩
    rw [hr, List.mapM_toArray]
    rw [Sem.run_map]
    rw [e]; rfl
  unfold retC at h
  rw [results_is]
  split at h
  · rename_i r
    obtain ⟨us, e, hl, hrep⟩ := all [v] (by simp only [fetchs, h])
    match us, hl with
    | [u], _ =>
      refine ⟨u, ?_, hrep 0 v u rfl rfl⟩
      simp only [Sem.run_bind, e, Result.andThen_ok]
      simp
  · rename_i hne
    split at h
    · rename_i vs hv
      simp only [Option.some.injEq] at h
      subst h
      obtain ⟨us, e, hl, hrep⟩ := all vs hv
      refine ⟨.tuple us.toArray, ?_, Rep.tup vs us hl hrep⟩
      have hfl : ∀ {rs : List ResultVar} {vs : List AV}, fetchs T H f rs = some vs → vs.length = rs.length := by
        intro rs
        induction rs with
        | nil => intro vs h; simp only [fetchs, Option.some.injEq] at h; subst h; rfl
        | cons r rs ih =>
          intro vs h
          simp only [fetchs] at h
          split at h
          · rename_i h1 h2
            simp only [Option.some.injEq] at h
            subst h
            simp [ih h2]
          · cases h
      have h1 : us.length ≠ 1 := fun h1 => by
        have := hfl hv
        have hl1 : rs.length = 1 := by omega
        match rs, hl1 with
        | [r], _ => exact hne r rfl
      simp only [Sem.run_bind, e, Result.andThen_ok]
      have : ¬ us.toArray.size = 1 := by simpa using h1
      rw [dif_neg this]; rfl
    · cases h
theorem rets_rep {ts : List Nat} {tmps : Array Value} {f : Nat → AV} (h : ∀ t, Rep w W gb (f t) (tmps.getD t undef)) : Rep w W gb (retA ts f) (retOf ts tmps) := by
  match ts with
  | [] => exact tup_of h
  | [t] => exact h t
  | t :: u :: l => exact tup_of h
/-- A function over a heap. -/
theorem hcalls_of {f : FuncId} {fn : Func} {c : Code} {ts : List Nat} {as : List AV} {Post : AV → Hp → Nat → Prop} (A : Vis) (hT : T.Ok P) (hm : P.follows .mixedOrders = true) (hf : P.funcs[f]? = some fn) (hb : fn.body = some c) (hr : fn.results = (ts.map ResultVar.tmp).toArray) (hl : ts.length ≤ 3)
    (hok : okC T A fn.ntmps c = true) (hF : okF P f = true) (hn : Nat.ble as.length fn.ntmps = true) (h : cwp P T A c ⟨beginF 0 as, H, n⟩ (den P T A (HPost ts Post) [])) : HCalls P f as H n Post := by
  replace hn := Nat.le_of_ble_eq_true hn
  refine ⟨hF, fun w F gb vs hheap hlen hrep => ?_⟩
  refine calls_of_wp hf hb ?_
  refine cwp_sound hT hm c hok ⟨_, begin_good hheap hlen hn hrep⟩ h fun e s' a' w' hs hr' => ?_
  obtain ⟨gb', g'⟩ := hr'
  have key : Post (rets s' ts) s'.heap s'.next → a'.defers = [] ∧ ∃ v, (results fn a'.tmps).run P w' = .ok v w' ∧ ∃ v' r H' n' gb', Done P F gb H w Post (.returned v) w' v' r H' n' gb' := by
    intro hp
    refine ⟨g'.defers, ?_⟩
    have hrun := results_of (P := P) hr hl a'.tmps w'
    refine ⟨_, hrun, _, rets s' ts, s'.heap, s'.next, gb', rfl, hp, g'.kept, g'.ext, g'.ok, g'.wr0, g'.x0, ?_⟩
    exact rets_rep (f := s'.get) g'.slots
  cases e with
  | nrm => exact key hs
  | ret => exact key hs
  | ext i => exact hs.elim
/-- A function over a heap, with results that are variables. -/
theorem hcallsC_of {f : FuncId} {fn : Func} {c : Code} {rs : List ResultVar} {as : List AV} {Post : AV → Hp → Nat → Prop} (A : Vis) (hT : T.Ok P) (hm : P.follows .mixedOrders = true) (hf : P.funcs[f]? = some fn) (hb : fn.body = some c) (hr : fn.results = rs.toArray)
    (hok : okC T A fn.ntmps c = true) (hF : okF P f = true) (hn : Nat.ble as.length fn.ntmps = true) (h : cwp P T A c ⟨beginF 0 as, H, n⟩ (den P T A (HPostC T rs Post) [])) : HCalls P f as H n Post := by
  replace hn := Nat.le_of_ble_eq_true hn
  refine ⟨hF, fun w F gb vs hheap hlen hrep => ?_⟩
  refine calls_of_wp hf hb ?_
  refine cwp_sound hT hm c hok ⟨_, begin_good hheap hlen hn hrep⟩ h fun e s' a' w' hs hr' => ?_
  obtain ⟨gb', g'⟩ := hr'
  have key : (match retC T s'.heap s'.get rs with | some v => Post v s'.heap s'.next | none => False) → a'.defers = [] ∧ ∃ v, (results fn a'.tmps).run P w' = .ok v w' ∧ ∃ v' r H' n' gb', Done P F gb H w Post (.returned v) w' v' r H' n' gb' := by
    intro hp
    refine ⟨g'.defers, ?_⟩
    split at hp
    · rename_i v hv
      obtain ⟨u, hrun, hrep⟩ := run_retC hT hr g'.ok g'.slots hv
      exact ⟨u, hrun, _, v, s'.heap, s'.next, gb', rfl, hp, g'.kept, g'.ext, g'.ok, g'.wr0, g'.x0, hrep⟩
    · exact hp.elim
  cases e with
  | nrm => exact key hs
  | ret => exact key hs
  | ext i => exact hs.elim
/-- A function that leaves all that was there as it was, whatever the heap. -/
theorem acalls_of {f : FuncId} {fn : Func} {c : Code} {ts : List Nat} {as : List AV} {res : AV} (A : Vis) (hT : T.Ok P) (hm : P.follows .mixedOrders = true) (hf : P.funcs[f]? = some fn) (hb : fn.body = some c) (hr : fn.results = (ts.map ResultVar.tmp).toArray) (hl : ts.length ≤ 3)
    (hok : okC T A fn.ntmps c = true) (hF : okF P f = true) (hn : Nat.ble as.length fn.ntmps = true) (hna : ∀ x ∈ as, NoId x) (hnr : NoId res) (h : cwp P T A c ⟨beginF 0 as, fun _ => none, 0⟩ (den P T A (APost ts res) [])) : ACalls P f as res := by
  replace hn := Nat.le_of_ble_eq_true hn
  refine ⟨hF, fun w W gb vs hW hlen hrep => ?_⟩
  refine calls_of_wp hf hb ?_
  have hheap : HeapOk P w W (fun _ => none) (fun _ => none) 0 := ⟨fun _ _ _ h => (by cases h), fun _ _ => rfl, fun _ _ h => (by cases h), fun _ _ _ _ _ h => (by cases h), hW, fun _ _ _ ⟨_, _, h, _⟩ => (by cases h)⟩
  have hnw : ∀ b o, ¬ Wh (fun _ => none) (fun _ => none) b o := fun b o ⟨_, _, h, _⟩ => by cases h
  refine cwp_sound hT hm c hok ⟨_, begin_good hheap hlen hn fun j x v hx hv => ((hrep j x v hx hv).noId (hna x (List.mem_of_getElem? hx))).keep (fun b o u hn hc => ⟨hc, fun hw => hw.elim hn (hnw b o)⟩) (Ext.refl _)⟩ h fun e s' a' w' hs hr' => ?_
  obtain ⟨gb', g'⟩ := hr'
  have key : retv s' ts = res → a'.defers = [] ∧ ∃ v, (results fn a'.tmps).run P w' = .ok v w' ∧ ∃ v', Ending.returned v = .returned v' ∧ Rep w' W gb res v' ∧ Below w.heap.size w w' := by
    intro hp
    refine ⟨g'.defers, ?_⟩
    have hrun := results_of (P := P) hr hl a'.tmps w'
    refine ⟨_, hrun, _, rfl, ?_, ?_⟩
    · have := rets_rep (ts := ts) (f := fun t => (s'.get t).view (sealH s'.heap)) (fun t => view_rep g'.ok.seal ((g'.slots t).less fun b o => Wr_seal))
      have e : retA ts (fun t => (s'.get t).view (sealH s'.heap)) = res := hp
      rw [e] at this
      exact (this.keep (W' := W) (gb' := gb') (fun b o u hn hc => ⟨hc, fun hw => hn (.inl hw)⟩) (Ext.refl _)).noId hnr
    · have hk := g'.kept
      exact ⟨hk.os, hk.tape, hk.output, hk.size, fun k hlt => hk.block k hlt fun ⟨_, _, h, _⟩ => by cases h⟩
  cases e with
  | nrm => exact key hs
  | ret => exact key hs
  | ext i => exact hs.elim
/-- A function that leaves all that was there as it was, whatever the heap, with results that are variables. -/
theorem acallsC_of {f : FuncId} {fn : Func} {c : Code} {rs : List ResultVar} {as : List AV} {res : AV} (A : Vis) (hT : T.Ok P) (hm : P.follows .mixedOrders = true) (hf : P.funcs[f]? = some fn) (hb : fn.body = some c) (hr : fn.results = rs.toArray)
    (hok : okC T A fn.ntmps c = true) (hF : okF P f = true) (hn : Nat.ble as.length fn.ntmps = true) (hna : ∀ x ∈ as, NoId x) (hnr : NoId res) (h : cwp P T A c ⟨beginF 0 as, fun _ => none, 0⟩ (den P T A (APostC T rs res) [])) : ACalls P f as res := by
  replace hn := Nat.le_of_ble_eq_true hn
  refine ⟨hF, fun w W gb vs hW hlen hrep => ?_⟩
  refine calls_of_wp hf hb ?_
  have hheap : HeapOk P w W (fun _ => none) (fun _ => none) 0 := ⟨fun _ _ _ h => (by cases h), fun _ _ => rfl, fun _ _ h => (by cases h), fun _ _ _ _ _ h => (by cases h), hW, fun _ _ _ ⟨_, _, h, _⟩ => (by cases h)⟩
  have hnw : ∀ b o, ¬ Wh (fun _ => none) (fun _ => none) b o := fun b o ⟨_, _, h, _⟩ => by cases h
  refine cwp_sound hT hm c hok ⟨_, begin_good hheap hlen hn fun j x v hx hv => ((hrep j x v hx hv).noId (hna x (List.mem_of_getElem? hx))).keep (fun b o u hn hc => ⟨hc, fun hw => hw.elim hn (hnw b o)⟩) (Ext.refl _)⟩ h fun e s' a' w' hs hr' => ?_
  obtain ⟨gb', g'⟩ := hr'
  have key : (match retC T s'.heap s'.get rs with | some v => v.viewR (sealH s'.heap) = res | none => False) → a'.defers = [] ∧ ∃ v, (results fn a'.tmps).run P w' = .ok v w' ∧ ∃ v', Ending.returned v = .returned v' ∧ Rep w' W gb res v' ∧ Below w.heap.size w w' := by
    intro hp
    refine ⟨g'.defers, ?_⟩
    split at hp
    · rename_i v hv
      obtain ⟨u, hrun, hrep⟩ := run_retC hT hr g'.ok g'.slots hv
      refine ⟨u, hrun, _, rfl, ?_, ?_⟩
      · have this := viewR_rep g'.ok.seal (hrep.less fun b o => Wr_seal)
        rw [hp] at this
        exact (this.keep (W' := W) (gb' := gb') (fun b o u hn hc => ⟨hc, fun hw => hn (.inl hw)⟩) (Ext.refl _)).noId hnr
      · have hk := g'.kept
        exact ⟨hk.os, hk.tape, hk.output, hk.size, fun k hlt => hk.block k hlt fun ⟨_, _, h, _⟩ => by cases h⟩
    · exact hp.elim
  cases e with
  | nrm => exact key hs
  | ret => exact key hs
  | ext i => exact hs.elim
end
end Go.Proofs.Ytheanmfdfoefoaa.Hv
