/- Abstract values: append. Plain: over any program. -/
import Derived.Test.YtheanmfdfoefoaaHvEff2
set_option linter.unusedVariables false
set_option linter.unusedSimpArgs false
namespace Go.Proofs.Ytheanmfdfoefoaa.Hv
open Go Go.RowKit

section
variable {P : Program} {T : Tbl} {A : Vis} {N : Nat} {F : Nat → Nat → Prop} {w0 w w' : World} {gb0 gb gb' : Gb} {H0 H H' : Hp} {s s' : AS} {a : Act} {n n' : Nat} {W : Nat → Nat → Prop} {o : Oper} {K : Act → World → Prop} {Q : Exit → Act → World → Prop}
/-- A slice to be read, as a source. -/
theorem Reads.src {items : List (List AV)} {v : Value} {sz : Nat} (h : Reads w W gb items v) (hi : ∀ it ∈ items, it.length = sz) {tx e' : TypeId} (hk : P.underlying tx = some (.slice e')) :
    ∃ news, Src P sz tx v items.length news w ∧ RepL w W gb items.flatten news := by
  obtain ⟨sz', A, c, b, off, val, hi', rfl, hc, hm, ha, hcell⟩ := h
  have hfl := flatten_len hi
  have hat : ∀ (j : Nat) (u : Value), ((List.range items.flatten.length).map val)[j]? = some u → j < items.flatten.length ∧ u = val j := fun j u hu => by
    rw [List.getElem?_map, Option.map_eq_some_iff] at hu
    obtain ⟨k, hk, rfl⟩ := hu
    obtain ⟨hlt, e⟩ := List.getElem?_eq_some_iff.1 hk
    simp only [List.length_range] at hlt
    simp only [List.getElem_range] at e
    subst e
    exact ⟨hlt, rfl⟩
  have h1 : ∀ u ∈ (List.range items.flatten.length).map val, u.oneCell' = true := fun u hu => by
    obtain ⟨j, hj⟩ := List.mem_iff_getElem?.1 hu
    obtain ⟨hjn, rfl⟩ := hat j u hj
    exact (hcell j _ (List.getElem?_eq_getElem hjn)).2.1
  refine ⟨(List.range items.flatten.length).map val, Rd.src (sz := sz) ⟨A, c, rfl, hc, hm, by simp only [List.length_map, List.length_range]; exact hfl, fun hn => ?_⟩ h1 hk, ⟨by simp, h1, fun j x u hx hu => ?_⟩⟩
  · refine ⟨⟨b, off, none⟩, ha (fun e => by subst e; simp at hn), fun j u hu => ?_⟩
    obtain ⟨hj, rfl⟩ := hat j u hu
    rw [Addr.add_lit]
    exact (hcell j _ (List.getElem?_eq_getElem hj)).1
  · obtain ⟨hjn, rfl⟩ := hat j u hu
    exact (hcell j x hx).2.2
theorem setCells_row {g o : Nat} {t : TypeId} {fr : Nat × Nat} {cur : Array Value} {vs : List Value} (P : Program) (hg : w.heap[g]? = some (.cells cur t fr)) (hf : Cold cur.size fr) (hl : o + vs.length ≤ cur.size) (h1 : ∀ v ∈ vs, v.oneCell' = true) :
    w.setCells g o vs = w.setRow g (cur.toList.take o ++ vs ++ cur.toList.drop (o + vs.length)).toArray := by
  have a1 := run_storeCells_cells (P := P) g o vs 0 w (fun j hj => by simp [World.cell?, hg]; omega) (fun j hj => by
    simp only [World.frozen?, hg]
    rcases hf with h | h
    · simp; omega
    · simp; omega) h1
  have a2 := run_storeC P g o t vs 0 cur w hg hf (by simpa using hl) h1
  rw [a1] at a2
  injection a2 with _ a2
theorem frz_keep {gg size : Nat} {e : TypeId} {items : List (List AV)} {W' : Nat → Nat → Prop} (hc : Chg F gb H gg w w') (hk : ∀ b o u, ¬ Wr F gb H b o → w.cell? ⟨b, o, none⟩ = some u → w'.cell? ⟨b, o, none⟩ = some u ∧ ¬ W' b o) (he : Ext gb gb') (h : ObjRep P w (Wr F gb H) gb gg size (.frz e items)) : ObjRep P w' W' gb' gg size (.frz e items) := by
  obtain ⟨h0, cur, fr, h1, hf, h2, h3, h4, h5⟩ := h
  obtain ⟨cur', h1', h2'⟩ := hc.blk cur e fr h1
  have hcl : ∀ j (hlt : j < cur.size), w.cell? ⟨gg, j, none⟩ = some cur[j] := fun j hlt => by simp [World.cell?, h1, hlt]
  refine ⟨h0, cur', fr, h1', hf, h2'.trans h2, h3, ?_, fun o hlt => (hk gg o _ (h5 o hlt) (hcl o (by omega))).2⟩
  have : cur'.toList.take items.flatten.length = cur.toList.take items.flatten.length := take_same fun j hj => by
    have hlt : j < cur.size := by omega
    have := hc.cell j _ (h5 j hj) (hcl j hlt)
    simp only [World.cell?, h1'] at this
    rw [Array.getElem?_eq_getElem hlt]
    simpa using this
  rw [this]
  exact h4.keep hk he
/-- The row that is appended to moves to a new number. -/
theorem HeapOk.move {id gg size : Nat} {m : Bool} {e : TypeId} {items its' : List (List AV)} {old' : Option AO} (h : HeapOk P w F gb H n) (ho : H id = some (.row m e items)) (hg : gb id = some (gg, size)) (hc : Chg F gb H gg w w') (hle : items.flatten.length ≤ its'.flatten.length)
    (hold : old' = none ∨ (m = false ∧ old' = some (.frz e items))) (hr : ObjRep P w' (Wr F (gbn gb n (gg, size)) (upd (upd H id old') n (some (.row m e its')))) (gbn gb n (gg, size)) gg size (.row m e its')) :
    HeapOk P w' F (gbn gb n (gg, size)) (upd (upd H id old') n (some (.row m e its'))) (n + 1) ∧ (∀ b o, Wh (gbn gb n (gg, size)) (upd (upd H id old') n (some (.row m e its'))) b o → Wh gb H b o) ∧ (∀ b, Xh (gbn gb n (gg, size)) (upd (upd H id old') n (some (.row m e its'))) b → Xh gb H b) := by
  have hidn := (h.lt id gg size hg).1
  have hne : id ≠ n := by omega
  have hatH : ∀ j, j ≠ n → j ≠ id → upd (upd H id old') n (some (.row m e its')) j = H j := fun j h1 h2 => by rw [upd_other (fun e => h1 e.symm), upd_other (fun e => h2 e.symm)]
  have hatn : upd (upd H id old') n (some (.row m e its')) n = some (.row m e its') := upd_same _ _ _
  have hati : upd (upd H id old') n (some (.row m e its')) id = old' := by rw [upd_other (fun e => hne e.symm), upd_same]
  have hxold : ¬ exO old' := by
    rcases hold with rfl | ⟨_, rfl⟩ <;> exact fun h => h
  have hat : ∀ {j g t}, gbn gb n (gg, size) j = some (g, t) → (j = n ∧ g = gg ∧ t = size) ∨ (j ≠ n ∧ gb j = some (g, t)) := fun {j g t} hg => by
    unfold gbn at hg
    split at hg
    · injection hg with hg
      injection hg with e1 e2
      exact .inl ⟨by assumption, e1.symm, e2.symm⟩
    · exact .inr ⟨by assumption, hg⟩
  have hX : ∀ {j g t}, gbn gb n (gg, size) j = some (g, t) → exO (upd (upd H id old') n (some (.row m e its')) j) → ∃ i, gb i = some (g, t) ∧ exO (H i) ∧ (j = n → i = id) ∧ (j ≠ n → i = j ∧ j ≠ id) := fun {j g t} hj hx => by
    rcases hat hj with ⟨rfl, rfl, rfl⟩ | ⟨h1, h2⟩
    · exact ⟨id, hg, by rw [ho]; trivial, fun _ => rfl, fun h => absurd rfl h⟩
    · by_cases hji : j = id
      · subst hji; rw [hati] at hx; exact absurd hx hxold
      · rw [hatH j h1 hji] at hx
        exact ⟨j, h2, hx, fun h => absurd h h1, fun _ => ⟨rfl, hji⟩⟩
  have hwh : ∀ b o, Wh (gbn gb n (gg, size)) (upd (upd H id old') n (some (.row m e its'))) b o → Wh gb H b o := by
    rintro b o ⟨j, t, hj, hw⟩
    rcases hat hj with ⟨rfl, rfl, rfl⟩ | ⟨h1, h2⟩
    · rw [hatn] at hw
      refine ⟨id, _, hg, ?_⟩
      rw [ho]
      cases m with
      | true => trivial
      | false => exact Nat.le_trans hle hw
    · by_cases hji : j = id
      · subst hji; rw [hati] at hw; exact absurd (wrO_exO hw) hxold
      · rw [hatH j h1 hji] at hw; exact ⟨j, t, h2, hw⟩
  have hwr : ∀ b o, Wr F (gbn gb n (gg, size)) (upd (upd H id old') n (some (.row m e its'))) b o → Wr F gb H b o := fun b o hw => Or.imp_right (hwh b o) hw
  have hk : ∀ b o u, ¬ Wr F gb H b o → w.cell? ⟨b, o, none⟩ = some u → w'.cell? ⟨b, o, none⟩ = some u ∧ ¬ Wr F (gbn gb n (gg, size)) (upd (upd H id old') n (some (.row m e its'))) b o := fun b o u hn hcl => ⟨hc.keep b o u hn hcl, fun hw => hn (hwr b o hw)⟩
  have hxh : ∀ b, Xh (gbn gb n (gg, size)) (upd (upd H id old') n (some (.row m e its'))) b → Xh gb H b := by
    rintro b ⟨j, t, hj, hx⟩
    obtain ⟨i, h1, h2, _⟩ := hX hj hx
    exact ⟨i, t, h1, h2⟩
  have hfrz : ∀ {e1 : TypeId} {items1 : List (List AV)}, ObjRep P w (Wr F gb H) gb gg size (.frz e1 items1) → ObjRep P w' (Wr F (gbn gb n (gg, size)) (upd (upd H id old') n (some (.row m e its')))) (gbn gb n (gg, size)) gg size (.frz e1 items1) := fun h' => frz_keep hc hk (gbn_ext h _) h'
  refine ⟨⟨fun j g t hj => ?_, fun j hj => ?_, fun j o hj => ?_, fun i j g t t' hi hj hxi hxj => ?_, fun b o hf => by rw [hc.size]; exact h.FB b o hf, fun b o hf hx => h.FX b o hf (hxh b hx)⟩, hwh, hxh⟩
  · rcases hat hj with ⟨rfl, rfl, _⟩ | ⟨_, hj⟩
    · have := h.lt id g size hg; rw [hc.size]; omega
    · have := h.lt j g t hj; rw [hc.size]; omega
  · rw [hatH j (by omega) (by omega)]; exact h.new j (by omega)
  · by_cases hjn : j = n
    · subst hjn
      rw [hatn] at hj
      injection hj with hj
      subst hj
      exact .inl ⟨gg, size, by unfold gbn; rw [if_pos rfl], hr⟩
    · by_cases hji : j = id
      · subst hji
        rw [hati] at hj
        rcases hold with rfl | ⟨rfl, rfl⟩
        · cases hj
        · injection hj with hj
          subst hj
          refine .inl ⟨gg, size, gbn_ext h _ _ _ hg, hfrz ?_⟩
          rcases h.live j _ ho with ⟨g', t, hg', h0, cur, fr, h1, hf, h2, h3, h4⟩ | ⟨hn, _⟩
          · rw [hg] at hg'
            injection hg' with hg'
            injection hg' with e1 e2
            subst e1 e2
            exact ⟨h0, cur, fr, h1, hf, h2, h3, h4, fun o hlt => h.tip_cold ho hg hlt⟩
          · rw [hn] at hg; cases hg
      · rw [hatH j hjn hji] at hj
        rcases h.live j o hj with ⟨g', t, hg', hrr⟩ | ⟨hn, hh⟩
        · refine .inl ⟨g', t, gbn_ext h _ _ _ hg', ?_⟩
          by_cases hgg : g' = gg
          · subst hgg
            by_cases hxo : exO (some o)
            · exact absurd (h.one j id g' t size hg' hg (by rw [hj]; exact hxo) (by rw [ho]; trivial)) hji
            · cases o with
              | frz e' items' => exact frz_keep hc hk (gbn_ext h _) hrr
              | _ => exact absurd trivial hxo
          · exact hrr.keep (hc.oth g' hgg) hk (gbn_ext h _)
        · exact .inr ⟨by unfold gbn; rw [if_neg hjn]; exact hn, hh⟩
  · obtain ⟨i', h1, h2, h3, h4⟩ := hX hi hxi
    obtain ⟨j', h5, h6, h7, h8⟩ := hX hj hxj
    have heq := h.one i' j' g t t' h1 h5 h2 h6
    by_cases hin : i = n <;> by_cases hjn : j = n
    · omega
    · have := h3 hin; have := h8 hjn; omega
    · have := h4 hin; have := h7 hjn; omega
    · have := h4 hin; have := h8 hjn; omega
theorem move_wr {id gg size : Nat} {m : Bool} {e : TypeId} {items its' : List (List AV)} {old' : Option AO} (h : HeapOk P w F gb H n) (ho : H id = some (.row m e items)) (hg : gb id = some (gg, size)) (hle : items.flatten.length ≤ its'.flatten.length)
    (hold : old' = none ∨ (m = false ∧ old' = some (.frz e items))) (b o : Nat) (hw : Wr F (gbn gb n (gg, size)) (upd (upd H id old') n (some (.row m e its'))) b o) : Wr F gb H b o := by
  have hidn := (h.lt id gg size hg).1
  have hxold : ¬ exO old' := by
    rcases hold with rfl | ⟨_, rfl⟩ <;> exact fun h => h
  rcases hw with hf | ⟨j, t, hj, hw⟩
  · exact .inl hf
  · refine .inr ?_
    unfold gbn at hj
    split at hj
    · rename_i hjn
      subst hjn
      injection hj with hj
      injection hj with e1 e2
      subst e1 e2
      rw [upd_same] at hw
      refine ⟨id, _, hg, ?_⟩
      rw [ho]
      cases m with
      | true => trivial
      | false => exact Nat.le_trans hle hw
    · rename_i hjn
      rw [upd_other (fun e => hjn e.symm)] at hw
      by_cases hji : j = id
      · subst hji; rw [upd_same] at hw; exact absurd (wrO_exO hw) hxold
      · rw [upd_other (fun e => hji e.symm)] at hw; exact ⟨j, t, hj, hw⟩
/-- A row is given up. -/
theorem HeapOk.drop {id : Nat} {m : Bool} {e : TypeId} {items : List (List AV)} {old' : Option AO} (h : HeapOk P w F gb H n) (ho : H id = some (.row m e items)) (hold : old' = none ∨ (m = false ∧ old' = some (.frz e items) ∧ items ≠ [])) :
    HeapOk P w F gb (upd H id old') n ∧ (∀ b o, Wh gb (upd H id old') b o → Wh gb H b o) ∧ (∀ b, Xh gb (upd H id old') b → Xh gb H b) := by
  have hxold : ¬ exO old' := by
    rcases hold with rfl | ⟨_, rfl, _⟩ <;> exact fun h => h
  have hwh : ∀ b o, Wh gb (upd H id old') b o → Wh gb H b o := by
    rintro b o ⟨j, t, hj, hw⟩
    by_cases hji : j = id
    · subst hji; rw [upd_same] at hw; exact absurd (wrO_exO hw) hxold
    · rw [upd_other (fun e => hji e.symm)] at hw; exact ⟨j, t, hj, hw⟩
  have hex : ∀ j, exO (upd H id old' j) → exO (H j) := fun j hj => by
    by_cases hji : j = id
    · subst hji; rw [upd_same] at hj; exact absurd hj hxold
    · rwa [upd_other (fun e => hji e.symm)] at hj
  have hxh : ∀ b, Xh gb (upd H id old') b → Xh gb H b := fun b ⟨j, t, hj, hx⟩ => ⟨j, t, hj, hex j hx⟩
  have hk : ∀ b o u, ¬ Wr F gb H b o → w.cell? ⟨b, o, none⟩ = some u → w.cell? ⟨b, o, none⟩ = some u ∧ ¬ Wr F gb (upd H id old') b o := fun b o u hn hcl => ⟨hcl, fun hw => hn (Or.imp_right (hwh b o) hw)⟩
  have hidn : id < n := by
    rcases Nat.lt_or_ge id n with h' | h'
    · exact h'
    · rw [h.new id h'] at ho; cases ho
  refine ⟨⟨h.lt, fun j hj => by rw [upd_other (by omega)]; exact h.new j hj, fun j o hj => ?_, fun i j g t t' hi hj hxi hxj => h.one i j g t t' hi hj (hex i hxi) (hex j hxj), h.FB, fun b o hf hx => h.FX b o hf (hxh b hx)⟩, hwh, hxh⟩
  by_cases hji : j = id
  · subst hji
    rw [upd_same] at hj
    rcases hold with rfl | ⟨rfl, rfl, hne⟩
    · cases hj
    · injection hj with hj
      subst hj
      rcases h.live j _ ho with ⟨g', t, hg', h0, cur, fr, h1, hf, h2, h3, h4⟩ | ⟨hn, hh⟩
      · exact .inl ⟨g', t, hg', h0, cur, fr, h1, hf, h2, h3, h4.keep hk (Ext.refl _), fun o hlt => by
          have hlt2 : o < cur.size := by omega
          exact (hk g' o cur[o] (h.tip_cold ho hg' hlt) (by simp [World.cell?, h1, hlt2])).2⟩
      · obtain ⟨_, _, hh⟩ := hh
        injection hh with _ _ hh
        exact absurd hh hne
  · rw [upd_other (fun e => hji e.symm)] at hj
    rcases h.live j o hj with ⟨g', t, hg', hrr⟩ | hh
    · exact .inl ⟨g', t, hg', hrr.keep rfl hk (Ext.refl _)⟩
    · exact .inr hh
theorem Good.drop {id : Nat} {m : Bool} {e : TypeId} {items : List (List AV)} {old' : Option AO} (g : Good P N F w0 gb0 H0 s a w gb) (ho : s.heap id = some (.row m e items)) (hold : old' = none ∨ (m = false ∧ old' = some (.frz e items) ∧ items ≠ [])) : Good P N F w0 gb0 H0 (s.chg id old') a w gb := by
  obtain ⟨h1, h2, h3⟩ := g.ok.drop ho hold
  exact ⟨g.kept, g.ext, h1, fun b o hlt hw => g.wr0 b o hlt (h2 b o hw), fun b hlt hx => g.x0 b hlt (h3 b hx), g.size, g.defers, fun t => (g.slots t).keep (fun b o u hn hcl => ⟨hcl, fun hw => hn (Or.imp_right (h2 b o) hw)⟩) (Ext.refl _)⟩
/-- What becomes of the old number. -/
def oldO (m : Bool) (e : TypeId) (items : List (List AV)) : Option AO := bif m || items.isEmpty then none else some (.frz e items)
/-- The things of a slice or the bytes of a string. -/
def anews (T : Tbl) (H : Hp) (t : Nat) (y : AV) : Option (List (List AV)) := match y with
  | .lit (.string u) => bif T.strs.elem t then some (bytesA u) else none
  | y => match lk? T.sls t with
    | some _ => y.its? H
    | none => none
def fapp (T : Tbl) (A : Vis) (c : Call) (d : Option Nat) (s : AS) : Option AS :=
  match c.callee, c.args.toList, c.argTypes.toList, d with
  | .builtin .append, [x, y], [t, tx], some d => match lk? T.sls t, anews T s.heap tx (s.eval y) with
    | some I, some news => match s.eval x with
      | .rw id sz 0 len => match s.heap id with
        | some (.row m e items) => if ((len = items.length ∧ I.e = e ∧ sz = I.size) ∧ ∀ it ∈ news, it.length = I.size) ∧ (items.length + news.length) * I.bytes ≤ 140737488355328 then
            some (((s.chg id (oldO m e items)).fresh (.row m e (items ++ news))).set d (.rw s.next I.size 0 (items.length + news.length))) else none
        | _ => none
      | .lit v => bif isNilV v then (if (∀ it ∈ news, it.length = I.size) ∧ news.length * I.bytes ≤ 140737488355328 then
            some ((s.fresh (.row (A.muts.elem d) I.e news)).set d (.rw s.next I.size 0 news.length)) else none) else none
      | _ => none
    | _, _ => none
  | _, _, _, _ => none
theorem anews_src {t : TypeId} {y : Operand} {news : List (List AV)} {sz : Nat} (hT : T.Ok P) (h : anews T s.heap t (s.eval y) = some news) (hl : ∀ it ∈ news, it.length = sz) (g : Good P N F w0 gb0 H0 s a w gb) : ∃ ns, Src P sz t (a.eval y) news.length ns w ∧ RepL w (Wr F gb s.heap) gb news.flatten ns := by
  unfold anews at h
  split at h
  · rename_i u hu
    cases hst : T.strs.elem t with
    | false => rw [hst] at h; cases h
    | true =>
      rw [hst] at h
      simp only [cond_true, Option.some.injEq] at h
      subst h
      have hv : a.eval y = .string u := by have := g.eval y; rw [hu] at this; exact rep_lit this
      have hul : u.data.toList.length = u.size := by simp
      rw [hv]
      refine ⟨byteCells u, ?_, ?_⟩
      · by_cases h0 : u.size = 0
        · have hd : u.data.toList = [] := List.eq_nil_of_length_eq_zero (by rw [hul]; exact h0)
          have hb : bytesA u = [] := by unfold bytesA; rw [hd]; rfl
          have hc : byteCells u = [] := by unfold byteCells; rw [hd]; rfl
          rw [hb, hc]
          exact ⟨.inr (hT.strs t (List.elem_iff.1 hst)), fun w' => by simp [Builtin.lenOf, h0], by simp [Builtin.firstCells], by simp [Builtin.firstCells], by simp, by simp⟩
        · have hs1 : sz = 1 := by
            cases hd : u.data.toList with
            | nil => rw [hd] at hul; simp at hul; omega
            | cons b l => have := hl (byteA b) (by unfold bytesA; rw [hd]; exact List.mem_cons_self); exact this.symm
          subst hs1
          have := Src.ofString (P := P) w (hT.strs t (List.elem_iff.1 hst)) u
          have hbl : (bytesA u).length = u.size := by unfold bytesA; rw [List.length_map]; exact hul
          rw [hbl]; exact this
      · unfold bytesA byteCells
        rw [byteA_flat]
        have := repL_lits (w := w) (W := Wr F gb s.heap) (gb := gb) (us := u.data.toList.map fun b => Value.int .u8 b.toNat) (by rw [List.all_eq_true]; intro y hy; obtain ⟨v, hv, rfl⟩ := List.mem_map.1 hy; obtain ⟨b, _, rfl⟩ := List.mem_map.1 hv; rfl)
        rwa [List.map_map] at this
  · split at h
    · rename_i I hI
      exact (rep_its g.ok (g.eval y) h).src hl (sls_ok hT hI).ht
    · cases h
theorem oldO_cases (m : Bool) (e : TypeId) (items : List (List AV)) : oldO m e items = none ∨ (m = false ∧ oldO m e items = some (.frz e items) ∧ items ≠ []) := by
  unfold oldO
  cases m with
  | true => exact .inl rfl
  | false =>
    cases items with
    | nil => exact .inl rfl
    | cons i l => exact .inr ⟨rfl, rfl, by simp⟩
theorem Good.move {id gg size : Nat} {m : Bool} {e : TypeId} {items its' : List (List AV)} {old' : Option AO} (g : Good P N F w0 gb0 H0 s a w gb) (ho : s.heap id = some (.row m e items)) (hg : gb id = some (gg, size)) (hc : Chg F gb s.heap gg w w') (hcw : ∀ o u, w.cell? ⟨gg, o, none⟩ = some u → Wh gb s.heap gg o ∨ w'.cell? ⟨gg, o, none⟩ = some u) (hle : items.flatten.length ≤ its'.flatten.length)
    (hold : old' = none ∨ (m = false ∧ old' = some (.frz e items))) (hr : ObjRep P w' (Wr F (gbn gb s.next (gg, size)) (upd (upd s.heap id old') s.next (some (.row m e its')))) (gbn gb s.next (gg, size)) gg size (.row m e its')) :
    Good P N F w0 gb0 H0 ((s.chg id old').fresh (.row m e its')) a w' (gbn gb s.next (gg, size)) := by
  obtain ⟨h1, h2, h3⟩ := g.ok.move ho hg hc hle hold hr
  have hx : Xh gb s.heap gg := ⟨id, size, hg, by rw [ho]; trivial⟩
  refine ⟨g.kept.trans (X' := fun k => k = gg) (W' := fun b o => b = gg ∧ Wh gb s.heap gg o) ⟨hc.os, hc.tape, hc.output, by rw [hc.size]; exact Nat.le_refl _, fun k _ hk => hc.oth k hk, fun b o u hn hcl => ?_⟩ (fun k hk he => ?_) (fun b o hb hbw => ?_), g.ext.trans (gbn_ext g.ok _), h1, fun b o hlt hw => g.wr0 b o hlt (h2 b o hw), fun b hlt hx => g.x0 b hlt (h3 b hx), g.size, g.defers, fun t => (g.slots t).keep (fun b o u hn hcl => ⟨hc.keep b o u hn hcl, fun hw => hn (Or.imp_right (h2 b o) hw)⟩) (gbn_ext g.ok _)⟩
  · by_cases hb : b = gg
    · subst hb
      rcases hcw o u hcl with h | h
      · exact absurd ⟨rfl, h⟩ hn
      · exact h
    · rw [World.cell?_of_block (w := w) (a := ⟨b, o, none⟩) (hc.oth b hb)]; exact hcl
  · subst he; exact g.x0 k hk hx
  · obtain ⟨rfl, hbw⟩ := hbw; exact g.wr0 b o hb hbw
/-- A row that grew into a new block. -/
theorem app_grow {I : SlI} {t tx ty : TypeId} {base : Option Addr} {len c : Nat} {x : Value} {m : Bool} {items news : List (List AV)} {ns olds : List Value} (hT : T.Ok P) (hI : lk? T.sls t = some I) (hil : ∀ it ∈ items ++ news, it.length = I.size) (hlen : len = items.length) (hs : Src P I.size tx x news.length ns w) (hns : RepL w (Wr F gb s.heap) gb news.flatten ns) (hol : RepL w (Wr F gb s.heap) gb items.flatten olds)
    (hold : (Builtin.firstCells I.size len (.slice base len c)).run P w.drew = .ok olds.toArray w.drew) (hgc : c < len + news.length) (hb : (items.length + news.length) * I.bytes ≤ 140737488355328) (g : Good P N F w0 gb0 H0 s a w gb) :
    ∃ v w' gb', (Builtin.append_ #[t, tx] ty #[.slice base len c, x]).run P w = .ok v w' ∧ Good P N F w0 gb0 H0 (s.fresh (.row m I.e (items ++ news))) a w' gb' ∧ Rep w' (Wr F gb' (s.fresh (.row m I.e (items ++ news))).heap) gb' (.rw s.next I.size 0 (items.length + news.length)) v := by
  obtain ⟨hu, ⟨i, hi, hz, hsi, hby⟩, hzs, hsz, hbp⟩ := sls_ok hT hI
  subst hlen
  have h63 : items.length + news.length ≤ maxLen := by
    have := Nat.le_mul_of_pos_right (items.length + news.length) hbp
    simp only [maxLen]; omega
  have hge := grownCap_ge w (items.length + news.length) c I.e
  have hrun := run_append_grow_src (P := P) w t tx ty I.e i I.zero hu hi hz base items.length c olds (by rw [hsi]; exact hold) x news.length ns (by rw [hsi]; exact hs) hgc (by simp only [maxLen] at h63; omega) (growslice_fits hgc (by rw [hby]; exact hb))
  have hL := hol.append hns
  have hfl : (items ++ news).flatten.length = (items.length + news.length) * I.size := by rw [flatten_len hil, List.length_append]
  have hsize : ((olds ++ ns).toArray ++ Builtin.zeroCells I.zero.cells (grownCap w (items.length + news.length) c I.e - (items.length + news.length))).size = grownCap w (items.length + news.length) c I.e * I.size := by
    have h1 : (olds ++ ns).length = (items.length + news.length) * I.size := by rw [← hL.len, ← List.flatten_append, hfl]
    simp only [Array.size_append, List.size_toArray, size_zeroCells, hzs, h1, ← Nat.add_mul]
    congr 1
    omega
  obtain ⟨c1, c2, c3⟩ := dalloc_below w (.cells ((olds ++ ns).toArray ++ Builtin.zeroCells I.zero.cells (grownCap w (items.length + news.length) c I.e - (items.length + news.length))) I.e)
  refine ⟨_, _, _, hrun, g.freshRow (m := m) (items := items ++ news) (by rw [szOf_sl hT hI]; exact hil) (by rw [hfl, hsize]; exact Nat.mul_le_mul_right _ hge) (cold0 _) ?_ c1 c2 c3, ?_⟩
  · have h1 : (olds ++ ns).length = (items ++ news).flatten.length := by rw [← hL.len, ← List.flatten_append]
    have : (((olds ++ ns).toArray ++ Builtin.zeroCells I.zero.cells (grownCap w (items.length + news.length) c I.e - (items.length + news.length))).toList.take (items ++ news).flatten.length) = olds ++ ns := by
      simp only [Array.toList_append]
      rw [← h1]
      exact List.take_left
    rw [this, List.flatten_append]
    exact hL
  · have := Rep.rw (w := w.drew.alloc (.cells ((olds ++ ns).toArray ++ Builtin.zeroCells I.zero.cells (grownCap w (items.length + news.length) c I.e - (items.length + news.length))) I.e)) (W := Wr F (gbn gb s.next (w.heap.size, ((olds ++ ns).toArray ++ Builtin.zeroCells I.zero.cells (grownCap w (items.length + news.length) c I.e - (items.length + news.length))).size)) (s.fresh (.row m I.e (items ++ news))).heap) s.next I.size 0 (items.length + news.length) _ _ (grownCap w (items.length + news.length) c I.e) (gbn_at gb s.next (w.heap.size, ((olds ++ ns).toArray ++ Builtin.zeroCells I.zero.cells (grownCap w (items.length + news.length) c I.e - (items.length + news.length))).size)) (by rw [hsize]; simp) hge (grownCap_le_maxLen w _ c I.e h63)
    rwa [Nat.zero_mul] at this
theorem rep_rw_inv {id sz ko len : Nat} {v : Value} (h : Rep w W gb (.rw id sz ko len) v) : (∃ g size c, gb id = some (g, size) ∧ v = .slice (some ⟨g, ko * sz, none⟩) len c ∧ ko * sz + c * sz ≤ size ∧ len ≤ c ∧ c ≤ maxLen) ∨ (v = .slice none 0 0 ∧ ko = 0 ∧ len = 0) ∨ ∃ g size off, gb id = some (g, size) ∧ v = .slice (some ⟨g, off, none⟩) 0 0 ∧ len = 0 := by
  cases h with
  | rw _ _ _ _ g size c hg hs hc hm => exact .inl ⟨g, size, c, hg, rfl, hs, hc, hm⟩
  | rwn => exact .inr (.inl ⟨rfl, rfl, rfl⟩)
  | rwz _ _ _ off g size hg => exact .inr (.inr ⟨g, size, off, hg, rfl, rfl⟩)
theorem Chg.self (gg : Nat) : Chg F gb H gg w w := ⟨rfl, rfl, rfl, rfl, fun _ _ => rfl, fun _ _ _ h => h, fun cur e fr h => ⟨cur, h, rfl⟩⟩
theorem s_app {c : Call} (hop : o.op = .call c) (hT : T.Ok P) (h : fapp T A c o.dst s = some s') (g : Good P N F w0 gb0 H0 s a w gb) (hd : ∀ k, o.dst = some k → k < N) (hK : ∀ a' w', R P N F w0 gb0 H0 s' a' w' → K a' w') : o.wp P a w K Q := by
  unfold fapp at h
  obtain ⟨callee, args, argTypes⟩ := c
  simp only at h
  split at h
  · rename_i x y t tx d hx hat hod
    obtain rfl : args = #[x, y] := Array.toList_inj.1 hx
    obtain rfl : argTypes = #[t, tx] := Array.toList_inj.1 hat
    have hwp : ∀ {v : Value} {w' : World}, (Builtin.append_ #[t, tx] o.type #[a.eval x, a.eval y]).run P w = .ok v w' → K (a.put o.dst v) w' → o.wp P a w K Q := by
      intro v w' hr hk
      refine wp_val (v := v) (w' := w') ?_ hk
      unfold execOp
      simp only [hop, resolve, invoke, builtin, Sem.run_bind, Sem.run_pure, Result.andThen_ok, List.map_toArray, List.map_cons, List.map_nil, hr]
    split at h
    · rename_i I news hI hnews
      obtain ⟨hu, ⟨i, hi, hz, hsi, hby⟩, hzs, hsz, hbp⟩ := sls_ok hT hI
      split at h
      · rename_i id sz len hxe
        split at h
        · rename_i m e items ho
          split at h
          · rename_i hc
            obtain ⟨⟨⟨hlen, hIe, hsz'⟩, hnl⟩, hb⟩ := hc
            simp only [Option.some.injEq] at h
            subst h hlen hIe hsz'
            obtain ⟨ns, hsrc, hns⟩ := anews_src hT hnews hnl g
            obtain ⟨h0, hbk⟩ := g.ok.rowAt ho (.inl ⟨m, rfl⟩)
            rw [szOf_sl hT hI] at h0
            have hil : ∀ it ∈ items ++ news, it.length = I.size := fun it hit => (List.mem_append.1 hit).elim (h0 it) (hnl it)
            have he := g.eval x
            rw [hxe] at he
            have gd := g.drop (old' := oldO m I.e items) ho (oldO_cases m I.e items)
            -- growing
            have grow : ∀ (base : Option Addr) (c : Nat) (olds : List Value), a.eval x = .slice base items.length c → c < items.length + news.length → RepL w (Wr F gb s.heap) gb items.flatten olds → (Builtin.firstCells I.size items.length (.slice base items.length c)).run P w.drew = .ok olds.toArray w.drew → o.wp P a w K Q := by
              intro base c olds hv hgc hol hold
              have hk : ∀ {cs us}, RepL w (Wr F gb s.heap) gb cs us → RepL w (Wr F gb (s.chg id (oldO m I.e items)).heap) gb cs us := fun hr => hr.keep (fun b o u hn hcl => ⟨hcl, fun hw => hn (Or.imp_right ((g.ok.drop ho (oldO_cases m I.e items)).2.1 b o) hw)⟩) (Ext.refl _)
              obtain ⟨v, w', gb', hrun, hg', hr'⟩ := app_grow (ty := o.type) (m := m) (s := s.chg id (oldO m I.e items)) hT hI hil rfl hsrc (hk hns) (hk hol) hold hgc hb gd
              rw [← hv] at hrun
              refine hwp hrun (hK _ _ ⟨gb', ?_⟩)
              rw [hod]
              exact hg'.put (d := some d) (fun k hk => hd k (by rw [hod]; exact hk)) hr'
            have hI' : ∀ {x : Nat}, x * i.size = x * I.size := fun {x} => by rw [hsi]
            have hsrc' : Src P i.size tx (a.eval y) news.length ns w := by rw [hsi]; exact hsrc
            have hnil : items.length = 0 → items = [] := fun h => List.eq_nil_of_length_eq_zero h
            have hfl0 := flatten_len h0
            have oldc : oldO m I.e items = none ∨ (m = false ∧ oldO m I.e items = some (.frz I.e items)) := by
              rcases oldO_cases m I.e items with h | ⟨h1, h2, _⟩
              · exact .inl h
              · exact .inr ⟨h1, h2⟩
            rcases rep_rw_inv he with ⟨gg, size, c, hg, hv, hs, hlc, hcm⟩ | ⟨hv, _, h00⟩ | ⟨gg, size, off, hg, hv, h00⟩
            · rw [Nat.zero_mul] at hv hs
              rcases hbk with ⟨hn, _⟩ | ⟨g', size', cur, fr, hg', hblk, hf, hcs, hle, hrl, _⟩
              · rw [hn] at hg; cases hg
              · rw [hg] at hg'
                injection hg' with hg'
                injection hg' with e1 e2
                subst e1 e2 hcs
                by_cases hgc : c < items.length + news.length
                · refine grow (some ⟨gg, 0, none⟩) c _ hv hgc hrl (run_firstCells_some w.drew I.size items.length ⟨gg, 0, none⟩ items.length c _ (by rw [← hrl.len, hfl0]) fun j u hu => ?_)
                  rw [Addr.add_lit, Nat.zero_add]
                  rw [List.getElem?_take] at hu
                  split at hu
                  · exact cell_of (w := w.drew) hblk hu
                  · cases hu
                · have hfit : items.length * I.size + ns.length ≤ cur.size := by
                    rw [hsrc.newsLen, ← Nat.add_mul]
                    exact Nat.le_trans (Nat.mul_le_mul_right I.size (Nat.le_of_not_lt hgc)) (by rw [Nat.zero_add] at hs; exact hs)
                  have hr := run_append_room_src (P := P) w t tx o.type I.e i hu hi gg 0 items.length c (a.eval y) news.length ns hsrc' (by omega) (fun j hj => by
                      rw [Nat.zero_add, hsi]
                      have : items.length * I.size + j < cur.size := by omega
                      simp [World.cell?, hblk, this]) (fun j hj => by
                      rw [Nat.zero_add, hsi]
                      simp only [World.frozen?, hblk]
                      rcases hf with h | h
                      · simp; omega
                      · simp; omega)
                  rw [Nat.zero_add, hsi, setCells_row P hblk hf hfit hsrc.one] at hr
                  rw [← hv] at hr
                  obtain ⟨cur', hcur'⟩ : ∃ cur' : Array Value, cur' = (cur.toList.take (items.length * I.size) ++ ns ++ cur.toList.drop (items.length * I.size + ns.length)).toArray := ⟨_, rfl⟩
                  rw [← hcur'] at hr
                  have a1 : (cur.toList.take (items.length * I.size)).length = items.length * I.size := by rw [List.length_take, Array.length_toList]; exact Nat.min_eq_left (Nat.le_trans (Nat.le_add_right _ _) hfit)
                  have hsz' : cur'.size = cur.size := by
                    rw [hcur', List.size_toArray, List.length_append, List.length_append, a1, List.length_drop, Array.length_toList]; exact Nat.add_sub_of_le hfit
                  have hwhg : ∀ k, items.length * I.size ≤ k → Wh gb s.heap gg k := fun k hk => ⟨id, cur.size, hg, by
                    rw [ho]
                    cases m with
                    | true => trivial
                    | false => show items.flatten.length ≤ k; rw [hfl0]; exact hk⟩
                  have hcellk : ∀ k u, k < items.length * I.size → w.cell? ⟨gg, k, none⟩ = some u → (w.setRow gg cur').cell? ⟨gg, k, none⟩ = some u := fun k u hk hc => by
                    rw [cell_setRow_same w gg k cur cur' I.e fr hblk]
                    simp only [World.cell?, hblk] at hc
                    rw [← Array.getElem?_toList, hcur']
                    simp only
                    rw [List.append_assoc, List.getElem?_append_left (by rw [a1]; exact hk), List.getElem?_take_of_lt hk]
                    simpa using hc
                  have hch : Chg F gb s.heap gg w (w.setRow gg cur') := ⟨rfl, rfl, rfl, by simp, fun k hk => setRow_other w gg k _ hk, fun k u hn hc => by
                      rcases Nat.lt_or_ge k (items.length * I.size) with h | h
                      · exact hcellk k u h hc
                      · exact absurd (Or.inr (hwhg k h)) hn, fun cur2 e2 fr2 h2 => ⟨cur', by rw [hblk] at h2; injection h2 with h2; injection h2 with q1 q2 q3; subst q1 q2 q3; exact ⟨setRow_heap w gg _ _ _ _ hblk, hsz'⟩⟩⟩
                  have hmv := g.move (old' := oldO m I.e items) (its' := items ++ news) ho hg hch (fun k u hc => by
                      rcases Nat.lt_or_ge k (items.length * I.size) with h | h
                      · exact .inr (hcellk k u h hc)
                      · exact .inl (hwhg k h)) (by simp) oldc ⟨by rw [szOf_sl hT hI]; exact hil, cur', fr, setRow_heap w gg _ _ _ _ hblk, hf, hsz', by rw [flatten_len hil, List.length_append, Nat.add_mul]; rw [hsrc.newsLen] at hfit; exact hfit, ?_⟩
                  · refine hwp hr (hK _ _ ⟨gbn gb s.next (gg, cur.size), ?_⟩)
                    rw [hod]
                    refine hmv.put (d := some d) (fun k hk => hd k (by rw [hod]; exact hk)) ?_
                    have := Rep.rw (w := w.setRow gg cur') (W := Wr F (gbn gb s.next (gg, cur.size)) ((s.chg id (oldO m I.e items)).fresh (.row m I.e (items ++ news))).heap) s.next I.size 0 (items.length + news.length) gg cur.size c (gbn_at gb s.next (gg, cur.size)) (by rw [Nat.zero_mul]; exact hs) (by omega) hcm
                    rwa [Nat.zero_mul] at this
                  · have hkk : ∀ b o u, ¬ Wr F gb s.heap b o → w.cell? ⟨b, o, none⟩ = some u → (w.setRow gg cur').cell? ⟨b, o, none⟩ = some u ∧ ¬ Wr F (gbn gb s.next (gg, cur.size)) (upd (upd s.heap id (oldO m I.e items)) s.next (some (.row m I.e (items ++ news)))) b o := fun b o u hn hc => ⟨hch.keep b o u hn hc, fun hw => hn (move_wr g.ok ho hg (by simp) oldc b o hw)⟩
                    have hcut : cur'.toList.take (items ++ news).flatten.length = cur.toList.take items.flatten.length ++ ns := by
                      rw [hcur', flatten_len hil, hfl0, List.length_append, Nat.add_mul, ← hsrc.newsLen]
                      simp only
                      exact List.take_left' (by rw [List.length_append, a1])
                    rw [hcut, List.flatten_append]
                    exact (hrl.append hns).keep hkk (gbn_ext g.ok _)
            · have := hnil h00
              subst this
              by_cases hm : news.length = 0
              · obtain rfl := List.eq_nil_of_length_eq_zero hm
                have hn0 : ns = [] := List.eq_nil_of_length_eq_zero (by simpa using hsrc.newsLen)
                subst hn0
                have hsrc0 : (Builtin.firstCells i.size 0 (a.eval y)).run P w = .ok #[] w := hsrc'.cells
                have hrun : (Builtin.append_ #[t, tx] o.type #[a.eval x, a.eval y]).run P w = .ok (.slice none 0 0) w := by
                  rw [hv]
                  rcases hsrc.kind with ⟨e', hk⟩ | hk <;> simp [Builtin.append_, run_underlying hu, run_underlying hk, sizeOf, typeInfo, hi, hsrc'.len, hsrc0]
                refine hwp hrun (hK _ _ ⟨gb, ?_⟩)
                rw [hod]
                exact gd.freshNil.put (d := some d) (fun k hk => hd k (by rw [hod]; exact hk)) (Rep.rwn _ _)
              · exact grow none 0 [] hv (by simp; omega) RepL.nil (by simp [Builtin.firstCells])
            · have := hnil h00
              subst this
              by_cases hm : news.length = 0
              · obtain rfl := List.eq_nil_of_length_eq_zero hm
                have hn0 : ns = [] := List.eq_nil_of_length_eq_zero (by simpa using hsrc.newsLen)
                subst hn0
                have hsrc0 : (Builtin.firstCells i.size 0 (a.eval y)).run P w = .ok #[] w := hsrc'.cells
                have hrun : (Builtin.append_ #[t, tx] o.type #[a.eval x, a.eval y]).run P w = .ok (.slice (some ⟨gg, off, none⟩) 0 0) w := by
                  rw [hv]
                  rcases hsrc.kind with ⟨e', hk⟩ | hk <;> simp [Builtin.append_, run_underlying hu, run_underlying hk, sizeOf, typeInfo, hi, hsrc'.len, hsrc0, storeCells]
                rcases hbk with ⟨hn, _⟩ | ⟨g', size', cur, fr, hg', hblk, hf, hcs, hle, hrl, _⟩
                · rw [hn] at hg; cases hg
                · rw [hg] at hg'
                  injection hg' with hg'
                  injection hg' with e1 e2
                  subst e1 e2
                  have hmv := g.move (old' := oldO m I.e []) (its' := [] ++ []) ho hg (Chg.self gg) (fun k u hc => .inr hc) (by simp) oldc ⟨by simp, cur, fr, hblk, hf, hcs, by simp, by simpa using RepL.nil⟩
                  refine hwp hrun (hK _ _ ⟨gbn gb s.next (gg, size), ?_⟩)
                  rw [hod]
                  exact hmv.put (d := some d) (fun k hk => hd k (by rw [hod]; exact hk)) (Rep.rwz _ _ _ _ _ _ (gbn_at gb s.next (gg, size)))
              · exact grow (some ⟨gg, off, none⟩) 0 [] hv (by simp; omega) RepL.nil (run_firstCells_some w.drew I.size 0 ⟨gg, off, none⟩ 0 0 [] (by simp) (by simp))
          · cases h
        · cases h
      · rename_i v hxe
        cases hn : isNilV v with
        | false => rw [hn] at h; cases h
        | true =>
          rw [hn] at h
          simp only [cond_true] at h
          split at h
          · rename_i hc
            obtain ⟨hnl, hb⟩ := hc
            simp only [Option.some.injEq] at h
            subst h
            obtain ⟨ns, hsrc, hns⟩ := anews_src hT hnews hnl g
            have he := g.eval x
            rw [hxe] at he
            have hv := rep_lit he
            unfold isNilV at hn
            split at hn
            · by_cases hm : news.length = 0
              · obtain rfl := List.eq_nil_of_length_eq_zero hm
                have hn0 : ns = [] := List.eq_nil_of_length_eq_zero (by simpa using hsrc.newsLen)
                subst hn0
                have hsrc' : Src P i.size tx (a.eval y) 0 [] w := by rw [hsi]; exact hsrc
                have hsrc0 : (Builtin.firstCells i.size 0 (a.eval y)).run P w = .ok #[] w := hsrc'.cells
                have hrun : (Builtin.append_ #[t, tx] o.type #[a.eval x, a.eval y]).run P w = .ok (.slice none 0 0) w := by
                  rw [hv]
                  rcases hsrc.kind with ⟨e', hk⟩ | hk <;> simp [Builtin.append_, run_underlying hu, run_underlying hk, sizeOf, typeInfo, hi, hsrc'.len, hsrc0]
                refine hwp hrun (hK _ _ ⟨gb, ?_⟩)
                rw [hod]
                exact g.freshNil.put (d := some d) (fun k hk => hd k (by rw [hod]; exact hk)) (Rep.rwn _ _)
              · have := app_grow (ty := o.type) (m := A.muts.elem d) (items := []) (base := none) (len := 0) (c := 0) (olds := []) hT hI (by simpa using hnl) rfl hsrc hns RepL.nil (by simp [Builtin.firstCells]) (by omega) (by simpa using hb) g
                obtain ⟨v, w', gb', hrun, hg', hr'⟩ := this
                rw [← hv] at hrun
                refine hwp hrun (hK _ _ ⟨gb', ?_⟩)
                rw [hod]
                simp only [List.nil_append, List.length_nil, Nat.zero_add] at hg' hr'
                exact hg'.put (d := some d) (fun k hk => hd k (by rw [hod]; exact hk)) hr'
            · cases hn
          · cases h
      · cases h
    · cases h
  · cases h
end
end Go.Proofs.Ytheanmfdfoefoaa.Hv
