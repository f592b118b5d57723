/- Abstract values: operations that only read, each. Plain: over any program. -/
import Derived.Test.YtheanmfdfoefoaaHvVal
set_option linter.unusedVariables false
set_option linter.unusedSimpArgs false
namespace Go.Proofs.Ytheanmfdfoefoaa.Hv
open Go Go.RowKit

section
variable {P : Program} {T : Tbl} {N : Nat} {F : Nat → Nat → Prop} {w0 w w' : World} {gb0 gb gb' : Gb} {H0 H H' : Hp} {s : AS} {a : Act} {n n' : Nat} {W : Nat → Nat → Prop} {o : Oper}
theorem rep_pick {b : Bool} {x y : AV} {u v : Value} (hx : Rep w W gb x u) (hy : Rep w W gb y v) : Rep w W gb (apick b x y) (if b then u else v) := by
  have key : Rep w W gb (bif b then x else y) (if b then u else v) := by cases b <;> assumption
  unfold apick
  split
  · rename_i p q
    rw [rep_lit hx, rep_lit hy]
    cases b <;> exact Rep.lit _
  · exact key
/-- What is read at an address. -/
theorem rep_read (h : HeapOk P w F gb H n) {x : AV} {v : Value} {cs : List AV} (hx : Rep w (Wr F gb H) gb x v) (hc : readA H x = some cs) :
    ∃ b off, v = .pointer (some ⟨b, off, none⟩) ∧ ∃ val : Nat → Value, ∀ (j : Nat) (c : AV), cs[j]? = some c → w.cell? ⟨b, off + j, none⟩ = some (val j) ∧ (val j).oneCell' = true ∧ Rep w (Wr F gb H) gb c (val j) := by
  unfold readA at hc
  split at hc
  · simp only [Option.some.injEq] at hc
    subst hc
    cases hx with
    | ref _ b off val hcell hF h1 hr => exact ⟨b, off, rfl, val, fun j c hc => ⟨hcell j c hc, h1 j c hc, hr j c hc⟩⟩
  · split at hc
    · rename_i id off _ cs' ho
      simp only [Option.some.injEq] at hc
      subst hc
      cases hx with
      | ptr _ _ g size hg =>
        rcases h.live id _ ho with ⟨g', size', hg', cur, e, fr, h1, _, h2, h3⟩ | ⟨hg', m, e, he⟩
        · rw [hg] at hg'
          injection hg' with hg'
          injection hg' with e1 e2
          subst e1 e2
          refine ⟨g, off, rfl, fun j => (w.cell? ⟨g, off + j, none⟩).getD undef, fun j c hj => ?_⟩
          rw [List.getElem?_drop] at hj
          have hlt := (List.getElem?_eq_some_iff.1 hj).1
          obtain ⟨u, hu⟩ : ∃ u, cur.toList[off + j]? = some u := ⟨_, List.getElem?_eq_getElem (by have := h3.len; omega)⟩
          have hc := cell_of h1 hu
          simp only [hc, Option.getD_some]
          exact ⟨trivial, h3.one u (List.mem_of_getElem? hu), h3.rep _ c u hj hu⟩
        · cases he
    · cases hc
  · split at hc
    · rename_i id sz k off _ m e items ho
      split at hc
      · rename_i it hit
        cases hb : Nat.beq it.length sz with
        | false => rw [hb] at hc; cases hc
        | true =>
          rw [hb] at hc
          simp only [cond_true, Option.some.injEq] at hc
          subst hc
          have hsz := Nat.eq_of_beq_eq_true hb
          obtain ⟨h0, hbk⟩ := h.rowAt ho (.inl ⟨m, rfl⟩)
          have hP : szOf P e = sz := by rw [← h0 it (List.mem_of_getElem? hit)]; exact hsz
          rw [hP] at h0
          cases hx with
          | el _ _ _ _ g size hg =>
            rcases hbk with ⟨hn, _⟩ | ⟨g', size', cur, fr, hg', h1, _, h2, h3, h4, _⟩
            · rw [hn] at hg; cases hg
            · rw [hg] at hg'
              injection hg' with hg'
              injection hg' with e1 e2
              subst e1 e2
              refine ⟨g, k * sz + off, rfl, fun j => (w.cell? ⟨g, k * sz + off + j, none⟩).getD undef, fun j c hj => ?_⟩
              rw [List.getElem?_drop] at hj
              obtain ⟨u, hu, h5, h6⟩ := row_cell h1 h4 (flatten_at h0 hit hj)
              rw [← Nat.add_assoc] at hu
              simp only [hu, Option.getD_some]
              exact ⟨trivial, h5, h6⟩
      · cases hc
    · cases hc
  · cases hc
theorem run_size_some {t n : Nat} (h : (P.info? t).map (·.size) = some n) (w : World) : (sizeOf t).run P w = .ok n w := by
  rw [Option.map_eq_some_iff] at h
  obtain ⟨i, hi, rfl⟩ := h
  simp [sizeOf, typeInfo, hi]
theorem run_isAgg_some {t : Nat} {b : Bool} (h : (P.underlying t).map isAggD = some b) (w : World) : (isAgg t).run P w = .ok b w := by
  rw [Option.map_eq_some_iff] at h
  obtain ⟨D, hD, rfl⟩ := h
  unfold isAgg
  rw [Sem.run_bind, run_underlying hD]
  cases D <;> rfl
/-- What is read at an address. -/
def rdAt (T : Tbl) (H : Hp) (t : Nat) (x : AV) : Option AV := match lk? T.szs t, readA H x with
    | some none, some (c :: _) => some c
    | some (some n), some cs => if n ≤ cs.length then some (.agg (cs.take n)) else none
    | _, _ => none
theorem run_rdAt {t : TypeId} {x v : AV} {vx : Value} (hT : T.Ok P) (h : rdAt T H t x = some v) (hok : HeapOk P w F gb H n) (hx : Rep w (Wr F gb H) gb x vx) : ∃ A u, vx = .pointer (some A) ∧ (loadVar t A).run P w = .ok u w ∧ Rep w (Wr F gb H) gb v u := by
  unfold rdAt at h
  split at h
  · rename_i c cs hz hcs
    simp only [Option.some.injEq] at h
    subst h
    obtain ⟨b, off, hv, val, hval⟩ := rep_read hok hx hcs
    obtain ⟨h1, h2⟩ := hT.szs _ (lk?_mem hz)
    obtain ⟨e1, e2, e3⟩ := hval 0 c rfl
    refine ⟨_, val 0, hv, ?_, e3⟩
    rw [Nat.add_zero] at e1
    simp only [loadVar, Sem.run_bind, Sem.run_pure, Result.andThen_ok, run_isAgg_some h1, Bool.false_eq_true, if_false, run_load, e1]
  · rename_i n' cs hz hcs
    split at h
    · rename_i hn
      simp only [Option.some.injEq] at h
      subst h
      obtain ⟨b, off, hv, val, hval⟩ := rep_read hok hx hcs
      obtain ⟨h1, h2⟩ := hT.szs _ (lk?_mem hz)
      have hat : ∀ (j : Nat) (u : Value), ((List.range n').map val)[j]? = some u → j < n' ∧ u = val j := fun j u hu => by
        rw [List.getElem?_map, Option.map_eq_some_iff] at hu
        obtain ⟨k, hk, rfl⟩ := hu
        obtain ⟨hlt, e⟩ := List.getElem?_eq_some_iff.1 hk
        simp only [List.length_range] at hlt
        simp only [List.getElem_range] at e
        subst e
        exact ⟨hlt, rfl⟩
      have hcell : (loadCells ⟨b, off, none⟩ n').run P w = .ok ((List.range n').map val).toArray w := by
        have := run_loadCells_list (P := P) (w := w) ⟨b, off, none⟩ ((List.range n').map val) (fun j u hu => by
          obtain ⟨hj, rfl⟩ := hat j u hu
          rw [Addr.add_lit]
          exact (hval j _ (List.getElem?_eq_getElem (by omega))).1)
        simpa using this
      refine ⟨_, .agg ((List.range n').map val).toArray, hv, ?_, Rep.agg (cs.take n') ((List.range n').map val) (by simp; omega) (fun u hu => ?_) (fun j c u hc hu => ?_)⟩
      · simp only [loadVar, Sem.run_bind, Sem.run_pure, Result.andThen_ok, run_isAgg_some h1, if_true, run_size_some h2, hcell]
      · obtain ⟨j, hj⟩ := List.mem_iff_getElem?.1 hu
        obtain ⟨hjn, rfl⟩ := hat j u hj
        exact (hval j _ (List.getElem?_eq_getElem (by omega))).2.1
      · obtain ⟨hjn, rfl⟩ := hat j u hu
        rw [List.getElem?_take_of_lt hjn] at hc
        exact (hval j c hc).2.2
    · cases h
  · cases h
theorem v_load {t : TypeId} {x : Operand} {v : AV} (ho : o.op = .load t x) (hT : T.Ok P) (h : rdAt T s.heap t (s.eval x) = some v) (g : Good P N F w0 gb0 H0 s a w gb) : ∃ u, (execOp a.eval o).run P w = .ok (.value u) w ∧ Rep w (Wr F gb s.heap) gb v u := by
  obtain ⟨A, u, hv, hrun, hrep⟩ := run_rdAt hT h g.ok (g.eval x)
  refine ⟨u, ?_, hrep⟩
  unfold execOp
  simp only [ho, hv]
  simp only [Instr.loadAt, Instr.sureAddr, Sem.run_bind, Sem.run_pure, Result.andThen_ok, hrun]
theorem run_fieldAt_some {t f off : Nat} {b k : Nat} (h : fldOf P t f = some (off, false)) (w : World) : (Instr.fieldAt t (.pointer (some ⟨b, k, none⟩)) f).run P w = .ok (.pointer (some ⟨b, k + off, none⟩)) w := by
  unfold fldOf at h
  split at h
  · rename_i fs hfs
    split at h
    · rename_i fd hfd
      split at h
      · rename_i j hj
        simp only [Option.some.injEq, Prod.mk.injEq] at h
        obtain ⟨rfl, h2⟩ := h
        have h0 : j.size ≠ 0 := fun e => by rw [e] at h2; cases h2
        simp [Instr.fieldAt, run_underlying hfs, hfd, Instr.sureAddr, fieldPlace, sizeOf, typeInfo, hj, h0, Addr.add_lit]
      · cases h
    · cases h
  · cases h
theorem fld_ok {t f off : Nat} (hT : T.Ok P) (h : T.fld t f = some off) : fldOf P t f = some (off, false) := by
  unfold Tbl.fld at h
  rw [Option.bind_eq_some_iff] at h
  obtain ⟨l, hl, h⟩ := h
  exact hT.flds _ (lk?_mem hl) _ (lk?_mem h)
theorem rep_drop {cs : List AV} {b k off : Nat} (h : Rep w W gb (.ref cs) (.pointer (some ⟨b, k, none⟩))) : Rep w W gb (.ref (cs.drop off)) (.pointer (some ⟨b, k + off, none⟩)) := by
  cases h with
  | ref _ b k val hcell hF h1 hr =>
    refine Rep.ref _ b (k + off) (fun j => val (off + j)) (fun j x hx => ?_) (fun j x hx => ?_) (fun j x hx => ?_) (fun j x hx => ?_) <;> rw [List.getElem?_drop] at hx
    · rw [Nat.add_assoc]; exact hcell _ x hx
    · rw [Nat.add_assoc]; exact hF _ x hx
    · exact h1 _ x hx
    · exact hr _ x hx
theorem v_fld {t : TypeId} {x : Operand} {f : Nat} {v : AV} (ho : o.op = .fieldAddr t x f) (hT : T.Ok P) (h : (match T.fld t f, s.eval x with
    | some off, .ref cs => some (.ref (cs.drop off))
    | some off, .ptr id k => some (.ptr id (k + off))
    | some off, .el id sz i k => some (.el id sz i (k + off))
    | _, _ => none) = some v) (g : Good P N F w0 gb0 H0 s a w gb) : ∃ u, (execOp a.eval o).run P w = .ok (.value u) w ∧ Rep w (Wr F gb s.heap) gb v u := by
  have hx := g.eval x
  have key : ∀ (off b k : Nat), T.fld t f = some off → a.eval x = .pointer (some ⟨b, k, none⟩) → (execOp a.eval o).run P w = .ok (.value (.pointer (some ⟨b, k + off, none⟩))) w := by
    intro off b k hf hv
    unfold execOp
    simp only [ho, hv]
    rw [Sem.run_bind, run_fieldAt_some (fld_ok hT hf)]
    rfl
  split at h
  · rename_i off cs hf hc
    simp only [Option.some.injEq] at h; subst h
    rw [hc] at hx
    generalize hv : a.eval x = v at hx
    cases id hx with
    | ref _ b k val _ _ _ _ => exact ⟨_, key off b k hf hv, rep_drop hx⟩
  · rename_i off id k hf hc
    simp only [Option.some.injEq] at h; subst h
    rw [hc] at hx
    generalize hv : a.eval x = v at hx
    cases hx with
    | ptr _ _ b size hg => exact ⟨_, key off b k hf hv, Rep.ptr id (k + off) b size hg⟩
  · rename_i off id sz i k hf hc
    simp only [Option.some.injEq] at h; subst h
    rw [hc] at hx
    generalize hv : a.eval x = v at hx
    cases hx with
    | el _ _ _ _ b size hg =>
      refine ⟨_, key off b (i * sz + k) hf hv, ?_⟩
      rw [Nat.add_assoc]
      exact Rep.el id sz i (k + off) b size hg
  · cases h
theorem sls_ok {t : Nat} {I : SlI} (hT : T.Ok P) (h : lk? T.sls t = some I) : ElemT P t I.e I.zero I.size I.bytes := hT.sls _ (lk?_mem h)
/-- The address of a thing of a slice whose things may be read for ever. -/
theorem rep_at {items : List (List AV)} {v : Value} {k sz : Nat} {it : List AV} (h : Rep w W gb (.sl items) v) (hk : items[k]? = some it) (hs : it.length = sz) :
    ∃ b off c, v = .slice (some ⟨b, off, none⟩) items.length c ∧ Rep w W gb (.ref it) (.pointer (some ⟨b, off + k * sz, none⟩)) := by
  cases h with
  | sl _ sz' A c b off val hi hc hm ha hcell hF h1 hr =>
    have hne : items ≠ [] := fun e => by subst e; simp at hk
    have hsz : sz' = sz := by rw [← hs]; exact (hi it (List.mem_of_getElem? hk)).symm
    subst hsz
    have key : ∀ (j : Nat) (x : AV), it[j]? = some x → items.flatten[k * sz' + j]? = some x := fun j x hj => flatten_at hi hk hj
    refine ⟨b, off, c, by rw [ha hne], Rep.ref it b (off + k * sz') (fun j => val (k * sz' + j)) (fun j x hj => ?_) (fun j x hj => ?_) (fun j x hj => h1 _ x (key j x hj)) (fun j x hj => hr _ x (key j x hj))⟩
    · have := hcell _ x (key j x hj); rwa [← Nat.add_assoc] at this
    · have := hF _ x (key j x hj); rwa [← Nat.add_assoc] at this
/-- A slice whose things nobody writes may be read for ever. -/
theorem rep_sl (h : HeapOk P w F gb H n) {x : AV} {v : Value} {items : List (List AV)} (hx : Rep w (Wr F gb H) gb x v) (hi : x.its? H = some items) (hm : ∀ id sz ko len m e its, x = .rw id sz ko len → H id = some (.row m e its) → m = false) : Rep w (Wr F gb H) gb (.sl items) v := by
  have rowcase : ∀ {id sz ko len : Nat} {e : TypeId} {its : List (List AV)} {oo : AO}, x = .rw id sz ko len → H id = some oo → (oo = .row false e its ∨ oo = .frz e its) → fits its sz ko len = true → items = piece its ko len → Rep w (Wr F gb H) gb (.sl items) v := by
    intro id sz ko len e its oo hxe ho hk hf hp
    subst hxe hp
    obtain ⟨h0, hb⟩ := h.rowAt (e := e) (items := its) ho (by rcases hk with rfl | rfl; exact .inl ⟨false, rfl⟩; exact .inr rfl)
    have hpl := piece_len hf
    cases hx with
    | rw _ _ _ _ g size c hg hs hc hm =>
      rcases hb with ⟨hn, _⟩ | ⟨g', size', cur, fr, hg', h1, _, h2, h3, h4, h5⟩
      · rw [hn] at hg; cases hg
      · rw [hg'] at hg
        injection hg with hg
        injection hg with e1 e2
        subst e1 e2
        have hcold : ∀ o, o < its.flatten.length → ¬ Wr F gb H g' o := fun o hlt => by
          rcases hk with rfl | rfl
          · exact h.tip_cold ho hg' hlt
          · exact h5 rfl o hlt
        have hrow : ∀ (j : Nat) (x : AV), (piece its ko len).flatten[j]? = some x → ∃ u, w.cell? ⟨g', ko * sz + j, none⟩ = some u ∧ u.oneCell' = true ∧ Rep w (Wr F gb H) gb x u ∧ ¬ Wr F gb H g' (ko * sz + j) := fun j x hx => by
          have hfl := flatten_piece h0 hf hx
          obtain ⟨u, hu, h1', hr⟩ := row_cell h1 h4 hfl
          exact ⟨u, hu, h1', hr, hcold _ (List.getElem?_eq_some_iff.1 hfl).1⟩
        have := Rep.sl (w := w) (W := Wr F gb H) (gb := gb) (piece its ko len) (szOf P e) (some ⟨g', ko * sz, none⟩) c g' (ko * sz) (fun j => (w.cell? ⟨g', ko * sz + j, none⟩).getD undef) (fun it hit => h0 it (piece_mem hit)) (by rw [hpl]; exact hc) hm (fun _ => rfl) (fun j x hx => ?_) (fun j x hx => ?_) (fun j x hx => ?_) (fun j x hx => ?_)
        · rw [hpl] at this; exact this
        · obtain ⟨u, hu, h1', hr, hw⟩ := hrow j x hx
          simp only [hu, Option.getD_some]
        · obtain ⟨u, hu, h1', hr, hw⟩ := hrow j x hx
          exact hw
        · obtain ⟨u, hu, h1', hr, hw⟩ := hrow j x hx
          simp only [hu, Option.getD_some]
          exact h1'
        · obtain ⟨u, hu, h1', hr, hw⟩ := hrow j x hx
          simp only [hu, Option.getD_some]
          exact hr
    | rwz =>
      have h0' : piece its ko 0 = [] := List.eq_nil_of_length_eq_zero hpl
      rw [h0']
      exact rep_sl_nil rfl (by simp)
    | rwn =>
      have h0' : piece its 0 0 = [] := List.eq_nil_of_length_eq_zero hpl
      rw [h0']
      exact rep_sl_nil rfl (by simp)
  unfold AV.its? at hi
  split at hi
  · simp only [Option.some.injEq] at hi; subst hi; exact hx
  · split at hi
    · rename_i id sz ko len _ m e its ho
      cases hf : fits its sz ko len with
      | true =>
        rw [hf] at hi; simp only [cond_true, Option.some.injEq] at hi
        have := hm id sz ko len m e its rfl ho
        subst this
        exact rowcase rfl ho (.inl rfl) hf hi.symm
      | false => rw [hf] at hi; cases hi
    · rename_i id sz ko len _ e its ho
      cases hf : fits its sz ko len with
      | true => rw [hf] at hi; simp only [cond_true, Option.some.injEq] at hi; exact rowcase rfl ho (.inr rfl) hf hi.symm
      | false => rw [hf] at hi; cases hi
    · cases hi
  · rename_i u
    have hu := rep_lit hx
    subst hu
    cases hn : isNilV v with
    | true =>
      rw [hn] at hi
      simp only [cond_true, Option.some.injEq] at hi
      subst hi
      unfold isNilV at hn
      split at hn
      · exact rep_sl_nil rfl (by simp)
      · cases hn
    | false => rw [hn] at hi; cases hi
  · cases hi
theorem view1_rep (h : HeapOk P w F gb H n) {x : AV} {v : Value} (hx : Rep w (Wr F gb H) gb x v) : Rep w (Wr F gb H) gb (x.view1 H) v := by
  unfold AV.view1
  split
  · rename_i u
    have hu := rep_lit hx
    subst hu
    cases hn : isNilV v with
    | true =>
      unfold isNilV at hn
      split at hn
      · exact rep_sl_nil rfl (by simp)
      · cases hn
    | false => exact .lit v
  · rename_i id sz ko len
    split
    · rename_i e items ho
      cases hf : fits items sz ko len with
      | true =>
        refine rep_sl h hx (by simp [AV.its?, ho, hf]) fun id' sz' ko' len' m e' its he ho' => ?_
        injection he with e1
        subst e1
        rw [ho] at ho'
        injection ho' with ho'
        injection ho' with e1
        exact e1.symm
      | false => exact .dead v
    · rename_i e items ho
      cases hf : fits items sz ko len with
      | true =>
        refine rep_sl h hx (by simp [AV.its?, ho, hf]) fun id' sz' ko' len' m e' its he ho' => ?_
        injection he with e1
        subst e1
        rw [ho] at ho'
        cases ho'
      | false => exact .dead v
    · exact .dead v
  · exact hx
theorem view_rep (h : HeapOk P w F gb H n) {x : AV} {v : Value} (hx : Rep w (Wr F gb H) gb x v) : Rep w (Wr F gb H) gb (x.view H) v := by
  unfold AV.view
  split
  · cases hx with
    | agg _ vs hl h1 hr =>
      refine .agg _ vs (by simp [hl]) h1 fun j c u hc hu => ?_
      rw [List.getElem?_map, Option.map_eq_some_iff] at hc
      obtain ⟨x, hx, rfl⟩ := hc
      exact view1_rep h (hr j x u hx hu)
  · exact view1_rep h hx
theorem viewR_rep (h : HeapOk P w F gb H n) {x : AV} {v : Value} (hx : Rep w (Wr F gb H) gb x v) : Rep w (Wr F gb H) gb (x.viewR H) v := by
  unfold AV.viewR
  split
  · cases hx with
    | tup _ vs hl hr =>
      refine .tup _ vs (by simp [hl]) fun j c u hc hu => ?_
      rw [List.getElem?_map, Option.map_eq_some_iff] at hc
      obtain ⟨x, hx, rfl⟩ := hc
      exact view_rep h (hr j x u hx hu)
  · exact view_rep h hx
theorem run_arr {t len e sz : Nat} (hT : T.Ok P) (h : lk? T.arrs t = some (len, e, sz)) : P.underlying t = some (.array len e) ∧ (P.info? e).map (·.size) = some sz := hT.arrs _ (lk?_mem h)
theorem v_idx {t : TypeId} {x i : Operand} {k : IntKind} {m : Int} {v : AV} (ho : o.op = .indexAddr t x i) (hT : T.Ok P) (hi : (s.eval i).int? = some (k, m)) (h : aidx T s.heap t (s.eval x) m = some v) (g : Good P N F w0 gb0 H0 s a w gb) : ∃ u, (execOp a.eval o).run P w = .ok (.value u) w ∧ Rep w (Wr F gb s.heap) gb v u := by
  have h1 := rep_int (g.eval i) hi
  have hx := g.eval x
  unfold aidx at h
  split at h
  · rename_i h0
    split at h
    · rename_i len e sz ha
      split at h
      · rename_i hlt
        obtain ⟨hu, hsz⟩ := run_arr hT ha
        have key : ∀ b off, a.eval x = .pointer (some ⟨b, off, none⟩) → (execOp a.eval o).run P w = .ok (.value (.pointer (some ⟨b, off + m.toNat * sz, none⟩))) w := by
          intro b off hv
          unfold execOp
          simp only [ho, hv, h1]
          rw [Sem.run_bind]
          simp [Instr.indexAt, run_underlying hu, asIntOf, Instr.sureAddr, h0, hlt, run_size_some hsz, Addr.add_lit]
        split at h
        · rename_i id off hc
          simp only [Option.some.injEq] at h; subst h
          rw [hc] at hx
          generalize hv : a.eval x = v at hx
          cases hx with
          | ptr _ _ b size hg => exact ⟨_, key b off hv, Rep.ptr id _ b size hg⟩
        · rename_i cs hc
          simp only [Option.some.injEq] at h; subst h
          rw [hc] at hx
          generalize hv : a.eval x = v at hx
          cases id hx with
          | ref _ b off val _ _ _ _ => exact ⟨_, key b off hv, rep_drop hx⟩
        · cases h
      · cases h
    · split at h
      · rename_i I hI
        obtain ⟨hu, ⟨inf, hinf, hz, hsz, hby⟩, _, _, _⟩ := sls_ok hT hI
        have key : ∀ b off n' c, a.eval x = .slice (some ⟨b, off, none⟩) n' c → m < n' → (execOp a.eval o).run P w = .ok (.value (.pointer (some ⟨b, off + m.toNat * I.size, none⟩))) w := by
          intro b off n' c hv hlt
          have hb : 0 ≤ m ∧ m < n' := ⟨h0, hlt⟩
          unfold execOp
          simp only [ho, hv, h1]
          rw [Sem.run_bind]
          simp [Instr.indexAt, run_underlying hu, asIntOf, hb, sizeOf, typeInfo, hinf, hsz, Addr.add_lit]
        have rest : (∀ id sz ko len mm e its, s.eval x = .rw id sz ko len → s.heap id = some (.row mm e its) → mm = false) → (match (s.eval x).its? s.heap with
          | some items => match items[m.toNat]? with
            | some it => if it.length = I.size then some (.ref it) else none
            | none => none
          | none => none) = some v → ∃ u, (execOp a.eval o).run P w = .ok (.value u) w ∧ Rep w (Wr F gb s.heap) gb v u := by
          intro hmm h
          split at h
          · rename_i items hit
            split at h
            · rename_i it hk
              split at h
              · rename_i hl
                simp only [Option.some.injEq] at h; subst h
                obtain ⟨b, off, c, hv, hr⟩ := rep_at (rep_sl g.ok hx hit hmm) hk hl
                have hlt := (List.getElem?_eq_some_iff.1 hk).1
                exact ⟨_, key b off _ c hv (by omega), hr⟩
              · cases h
            · cases h
          · cases h
        split at h
        · rename_i _ id sz ko len hc
          split at h
          · rename_i e its ho'
            split at h
            · rename_i hb
              simp only [Option.some.injEq] at h; subst h
              rw [hc] at hx
              generalize hv : a.eval x = v at hx
              cases hx with
              | rw _ _ _ _ g' size c hg hs hc hm' =>
                refine ⟨_, key g' _ len c hv (by omega), ?_⟩
                rw [← hb.2, ← Nat.add_mul]
                exact Rep.el id sz (ko + m.toNat) 0 g' size hg
              | rwz =>
                obtain ⟨hb1, _⟩ := hb
                omega
              | rwn =>
                obtain ⟨hb1, _⟩ := hb
                omega
            · cases h
          · rename_i hnot
            exact rest (fun id' sz' ko' len' mm e its he ho' => by
              rw [hc] at he
              injection he with e1
              subst e1
              cases mm with
              | false => rfl
              | true => exact absurd ho' (hnot e its)) h
        · rename_i hnot
          exact rest (fun id' sz' ko' len' mm e its he ho' => absurd he (hnot _ _ _ _)) h
      · cases h
  · cases h
end
end Go.Proofs.Ytheanmfdfoefoaa.Hv
