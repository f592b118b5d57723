/- Abstract values: operations that lay, write or change objects. Plain: over any program. -/
import Derived.Test.YtheanmfdfoefoaaHvMem
import Derived.Laws.MakeOwn
set_option linter.unusedVariables false
set_option linter.unusedSimpArgs false
namespace Go.Proofs.Ytheanmfdfoefoaa.Hv
open Go Go.RowKit

/-- Which slots outlive a region; whose rows may be written in; which cuts of rows shorten them. -/
structure Vis where
  keep : List Nat
  muts : List Nat := []
  cut : List Nat := []
  sch : List (Nat × List (Nat × List Nat × List Nat)) := []
def isNilO : Operand → Bool | .const v => isNilV v | _ => false
def szN : Option Nat → Nat | none => 1 | some n => n
def bsItems (ρ : Operand → AV) (parts : List (Nat × Operand)) : List (List AV) := parts.map fun p => (ρ p.2).cells
def byteA (b : UInt8) : List AV := [.lit (.int .u8 b.toNat)]
def bytesA (s : ByteArray) : List (List AV) := s.data.toList.map byteA
def zeroA (z : Value) : List AV := z.cells.toList.map .lit
/-- The operations that change the heap, but for append and calls. -/
def feff (T : Tbl) (A : Vis) (o : Oper) (s : AS) : Option AS :=
  match o.op with
  | .box _ x => match o.dst with
    | some d => if (s.eval x).cells.all AV.isOne = true then some ((s.fresh (.cells (s.eval x).cells)).set d (.ptr s.next 0)) else none
    | none => none
  | .alloc e => match o.dst, lk? T.zeros e with
    | some d, some z => if (zeroA z).all AV.isOne = true then some ((s.fresh (.cells (zeroA z))).set d (.ptr s.next 0)) else none
    | _, _ => none
  | .buildSlice t n parts => match o.dst, lk? T.sls t with
    | some d, some I => if parts.toList.map (·.1) = List.range n ∧ n * I.size ≤ 16777216 ∧ ∀ it ∈ bsItems s.eval parts.toList, it.length = I.size ∧ it.all AV.isOne = true then some ((s.fresh (.row (A.muts.elem d) I.e (bsItems s.eval parts.toList))).set d (.rw s.next I.size 0 n)) else none
    | _, _ => none
  | .makeSlice t l c => match o.dst, lk? T.sls t, (s.eval l).int?, (s.eval c).int? with
    | some d, some I, some (_, l), some (_, c) => if (0 ≤ l ∧ l ≤ c ∧ I.bytes * c ≤ 140737488355328) ∧ (zeroA I.zero).all AV.isOne = true then some ((s.fresh (.row (A.muts.elem d) I.e (List.replicate l.toNat (zeroA I.zero)))).set d (.rw s.next I.size 0 l.toNat)) else none
    | _, _, _, _ => none
  | .makeMap t none => match o.dst, lk? T.maps t with
    | some d, some _ => some ((s.fresh (.map [] 0)).set d (.mp s.next))
    | _, _ => none
  | .range t x => match o.dst, lk? T.maps t, s.eval x with
    | some d, some _, .mp id => match s.heap id with
      | some (.map _ clock) => some ((s.fresh (.iter (some id) clock [] clock)).set d (.ptr s.next 0))
      | _ => none
    | _, _, _ => none
  | .convert t0 t x => match o.dst, s.eval x, lk? T.sls t with
    | some d, .lit (.string u), some I => bif T.strs.elem t0 && T.byts.elem t && Nat.ble u.size 140737488355328 then some ((s.fresh (.row (A.muts.elem d) I.e (bytesA u))).set d (.rw s.next 1 0 u.size)) else none
    | _, _, _ => none
  | .store t p x => match lk? T.szs t, s.eval p with
    | some z, .ptr id off => match s.heap id with
      | some (.cells cs) => if (s.eval x).cells.all AV.isOne = true ∧ (s.eval x).cells.length = szN z ∧ off + szN z ≤ cs.length then some ((s.chg id (some (.cells (setR cs off (s.eval x).cells)))).put o.dst .dead) else none
      | _ => none
    | some z, .el id sz k off => match s.heap id with
      | some (.row true e items) => match items[k]? with
        | some it => if ((s.eval x).cells.all AV.isOne = true ∧ it.length = sz) ∧ (s.eval x).cells.length = szN z ∧ off + szN z ≤ it.length then some ((s.chg id (some (.row true e (items.set k (setR it off (s.eval x).cells))))).put o.dst .dead) else none
        | none => none
      | _ => none
    | _, _ => none
  | .mapUpdate t m k x => match lk? T.maps t, s.eval m with
    | some I, .mp id => bif keyKind T I.key (s.eval k) then (match s.heap id with
      | some (.map es clock) => match mfind (s.eval k) es 0 with
        | some (some (i, _)) => match es[i]? with
          | some e => some ((s.chg id (some (.map (es.set i ⟨s.eval k, s.eval x, e.born⟩) clock))).put o.dst .dead)
          | none => none
        | some none => some ((s.chg id (some (.map (es ++ [⟨s.eval k, s.eval x, clock⟩]) (clock + 1)))).put o.dst .dead)
        | none => none
      | _ => none) else none
    | _, _ => none
  | .call c => match c.callee, c.args.toList, c.argTypes.toList with
    | .builtin .delete, [m, k], t :: _ => match lk? T.maps t, s.eval m with
      | some I, .mp id => bif keyKind T I.key (s.eval k) then (match s.heap id with
        | some (.map es clock) => match mfind (s.eval k) es 0 with
          | some (some (i, _)) => some ((s.chg id (some (.map (es.eraseIdx i) clock))).put o.dst (.tup []))
          | some none => some ((s.chg id (some (.map es clock))).put o.dst (.tup []))
          | none => none
        | _ => none) else none
      | _, _ => none
    | _, _, _ => none
  | _ => none
section
variable {P : Program} {T : Tbl} {A : Vis} {N : Nat} {F : Nat → Nat → Prop} {w0 w w' : World} {gb0 gb gb' : Gb} {H0 H H' : Hp} {s s' : AS} {a : Act} {n n' : Nat} {W : Nat → Nat → Prop} {o : Oper} {K : Act → World → Prop} {Q : Exit → Act → World → Prop}
theorem wp_val {v : Value} (h : (execOp a.eval o).run P w = .ok (.value v) w') (hK : K (a.put o.dst v) w') : o.wp P a w K Q := by
  unfold Oper.wp
  rw [h]
  exact hK
theorem wp_skp (h : (execOp a.eval o).run P w = .ok .skip w') (hK : K (a.put o.dst undef) w') : o.wp P a w K Q := by
  unfold Oper.wp
  rw [h, Oper.upon_skip]
  exact hK
theorem alloc_below (w : World) (ob : Obj) : Below w.heap.size w (w.alloc ob) ∧ w.heap.size < (w.alloc ob).heap.size ∧ (w.alloc ob).heap[w.heap.size]? = some ob :=
  ⟨(Below.refl _ _).alloc (Nat.le_refl _) _, by rw [hp_alloc]; simp, heap_alloc_new w _⟩
theorem dalloc_below (w : World) (ob : Obj) : Below w.heap.size w (w.drew.alloc ob) ∧ w.heap.size < (w.drew.alloc ob).heap.size ∧ (w.drew.alloc ob).heap[w.heap.size]? = some ob :=
  ⟨((Below.refl _ w).drew).alloc (Nat.le_refl _) _, by rw [hp_alloc]; simp, heap_alloc_new w.drew _⟩
theorem cold0 (size : Nat) : Cold size (0, 0) := .inl (Nat.le_refl _)
/-- A new variable. -/
theorem Good.freshCells {cs : List AV} {us : Array Value} {e : TypeId} (g : Good P N F w0 gb0 H0 s a w gb) (hr : RepL w (Wr F gb s.heap) gb cs us.toList) (hb : Below w.heap.size w w') (hs : w.heap.size < w'.heap.size) (hblk : w'.heap[w.heap.size]? = some (.cells us e (0, 0))) :
    Good P N F w0 gb0 H0 (s.fresh (.cells cs)) a w' (gbn gb s.next (w.heap.size, us.size)) :=
  g.fresh hb hs ⟨us, e, (0, 0), hblk, cold0 _, rfl, hr.keep (fresh_keep g.ok hb) (gbn_ext g.ok _)⟩
/-- A new row. -/
theorem Good.freshRow {m : Bool} {items : List (List AV)} {us : Array Value} {e : TypeId} {fr : Nat × Nat} (g : Good P N F w0 gb0 H0 s a w gb) (hi : ∀ it ∈ items, it.length = szOf P e) (hlen : items.flatten.length ≤ us.size) (hf : Cold us.size fr) (hr : RepL w (Wr F gb s.heap) gb items.flatten (us.toList.take items.flatten.length)) (hb : Below w.heap.size w w') (hs : w.heap.size < w'.heap.size) (hblk : w'.heap[w.heap.size]? = some (.cells us e fr)) :
    Good P N F w0 gb0 H0 (s.fresh (.row m e items)) a w' (gbn gb s.next (w.heap.size, us.size)) :=
  g.fresh hb hs ⟨hi, us, fr, hblk, hf, rfl, hlen, hr.keep (fresh_keep g.ok hb) (gbn_ext g.ok _)⟩
theorem gbn_at (gb : Gb) (n : Nat) (p : Nat × Nat) : gbn gb n p n = some p := by unfold gbn; rw [if_pos rfl]
theorem szOf_sl {t : Nat} {I : SlI} (hT : T.Ok P) (hI : lk? T.sls t = some I) : szOf P I.e = I.size := by
  obtain ⟨_, ⟨i, hi, _, hs, _⟩, _⟩ := sls_ok hT hI
  simp [szOf, hi, hs]
theorem run_storeC (P : Program) (g o : Nat) (t : TypeId) {fr : Nat × Nat} : ∀ (vs : List Value) (i : Nat) (cur : Array Value) (w : World), w.heap[g]? = some (.cells cur t fr) → Cold cur.size fr → o + i + vs.length ≤ cur.size → (∀ v ∈ vs, v.oneCell' = true) →
    (storeCells ⟨g, o, none⟩ vs i).run P w = .ok () (w.setRow g (cur.toList.take (o + i) ++ vs ++ cur.toList.drop (o + i + vs.length)).toArray)
  | [], i, cur, w, hg, _, _, _ => by
    simp only [storeCells, List.append_nil, List.length_nil, Nat.add_zero, List.take_append_drop, Array.toArray_toList]
    rw [setRow_self w g cur t fr hg]
    rfl
  | v :: rest, i, cur, w, hg, hf, hl, h1 => by
    have hi : o + i < cur.size := by simp at hl; omega
    have hadd : (⟨g, o, none⟩ : Addr).add i = ⟨g, o + i, none⟩ := by unfold Addr.add; split <;> simp_all
    have hcell : w.cell? ⟨g, o + i, none⟩ = some cur[o + i] := by simp [World.cell?, hg, hi]
    have hfro : w.frozen? ⟨g, o + i, none⟩ = false := by
      simp only [World.frozen?, hg]
      rcases hf with h | h
      · simp; omega
      · simp; omega
    have hst : (store ((⟨g, o, none⟩ : Addr).add i) v).run P w = .ok () (w.setRow g (cur.setIfInBounds (o + i) v)) := by
      rw [hadd, run_store P w _ v _ (h1 v (by simp)), hcell]
      simp [hfro, setCell_eq_setRow w g (o + i) cur t fr v hg]
    have ih := run_storeC P g o t rest (i + 1) (cur.setIfInBounds (o + i) v) (w.setRow g (cur.setIfInBounds (o + i) v)) (setRow_heap w g cur _ t _ hg) (by simpa using hf) (by simp at hl ⊢; omega) (fun x hx => h1 x (by simp [hx]))
    simp only [storeCells, Sem.run_bind, hst, Result.andThen_ok, ih, setRow_setRow]
    congr 3
    have e := list_seg_step cur.toList (o + i) v rest (by simp at hl ⊢; omega)
    simpa [Array.toList_setIfInBounds, Nat.add_assoc] using e
/-- A block's cells are written where all of them may be. -/
theorem chg_row {id gg : Nat} {cur cur' : Array Value} {e : TypeId} {fr : Nat × Nat} (hw : ∀ o, Wh gb H gg o) (hblk : w.heap[gg]? = some (.cells cur e fr)) (hsz : cur'.size = cur.size) : Chg F gb H gg w (w.setRow gg cur') :=
  ⟨rfl, rfl, rfl, by simp, fun k hk => setRow_other w gg k _ hk, fun o u hn _ => absurd (Or.inr (hw o)) hn, fun c e' fr' h => ⟨cur', by rw [hblk] at h; injection h with h; injection h with e1 e2 e3; subst e1 e2 e3; exact ⟨setRow_heap w gg _ _ _ _ hblk, hsz⟩⟩⟩
theorem chg_keep {id gg : Nat} {oo oo' : AO} (ho : H id = some oo) (hwr : ∀ k, wrO (some oo') k ↔ wrO (some oo) k) (hc : Chg F gb H gg w w') (b o : Nat) (u : Value) (hn : ¬ Wr F gb H b o) (hcl : w.cell? ⟨b, o, none⟩ = some u) : w'.cell? ⟨b, o, none⟩ = some u ∧ ¬ Wr F gb (upd H id (some oo')) b o :=
  ⟨hc.keep b o u hn hcl, fun h => hn ((wr_chg ho hwr b o).1 h)⟩
theorem run_storeAt {t : TypeId} {gg off : Nat} {v : Value} {cur : Array Value} {e : TypeId} {fr : Nat × Nat} {z : Option Nat} (hT : T.Ok P) (hz : lk? T.szs t = some z) (hblk : w.heap[gg]? = some (.cells cur e fr)) (hf : Cold cur.size fr) (hl : v.cells.size = szN z) (hfit : off + szN z ≤ cur.size) (h1 : ∀ u ∈ v.cells.toList, u.oneCell' = true) :
    (Instr.storeAt t (.pointer (some ⟨gg, off, none⟩)) v).run P w = .ok () (w.setRow gg (cur.toList.take off ++ v.cells.toList ++ cur.toList.drop (off + v.cells.toList.length)).toArray) := by
  have hsz : (P.info? t).map (·.size) = some (szN z) := by
    have := hT.szs _ (lk?_mem hz)
    unfold okSz at this
    cases z <;> exact this.2
  have := run_storeC P gg off e v.cells.toList 0 cur w hblk hf (by rw [Array.length_toList, hl]; simpa using hfit) h1
  simp only [Nat.add_zero] at this
  simp only [Instr.storeAt, Instr.sureAddr, storeVar, Sem.run_bind, Sem.run_pure, Result.andThen_ok, run_size_some hsz, hl, ne_eq, not_true_eq_false, if_false, this]
theorem AS.chg_put {d : Option Nat} {x : AV} {id : Nat} {oo : Option AO} : (s.chg id oo).put d x = (s.put d x).chg id oo := by cases d <;> rfl
theorem setR_len {l : List AV} {off : Nat} {cs : List AV} (h : off + cs.length ≤ l.length) : (setR l off cs).length = l.length := by
  unfold setR
  simp only [List.length_append, List.length_take, List.length_drop]
  omega
theorem flatten_set : ∀ {items : List (List AV)} {sz k off : Nat} {it cs : List AV}, (∀ it ∈ items, it.length = sz) → items[k]? = some it → off + cs.length ≤ sz → (items.set k (setR it off cs)).flatten = setR items.flatten (k * sz + off) cs := by
  intro items
  induction items with
  | nil => intro sz k off it cs _ h; simp at h
  | cons i items ih =>
    intro sz k off it cs hi hk hl
    have h0 := hi i (by simp)
    cases k with
    | zero =>
      simp only [List.getElem?_cons_zero, Option.some.injEq] at hk
      subst hk
      simp only [List.set_cons_zero, List.flatten_cons, setR, Nat.zero_mul, Nat.zero_add]
      rw [List.take_append_of_le_length (by omega), List.drop_append_of_le_length (by omega)]
      simp
    | succ k =>
      simp only [List.set_cons_succ, List.flatten_cons]
      rw [ih (fun it h => hi it (by simp [h])) (by simpa using hk) hl]
      unfold setR
      have e1 : (k + 1) * sz + off = i.length + (k * sz + off) := by rw [h0, Nat.succ_mul]; omega
      rw [e1, Nat.add_assoc i.length, List.take_length_add_append, List.drop_length_add_append]
      simp
theorem s_store {t : TypeId} {p x : Operand} (hop : o.op = .store t p x) (hT : T.Ok P) (h : feff T A o s = some s') (g : Good P N F w0 gb0 H0 s a w gb) (hd : ∀ k, o.dst = some k → k < N) (hK : ∀ a' w', R P N F w0 gb0 H0 s' a' w' → K a' w') : o.wp P a w K Q := by
  unfold feff at h
  simp only [hop] at h
  have hp := g.eval p
  split at h
  · rename_i z id off hz hpe
    split at h
    · rename_i cs ho
      split at h
      · rename_i hc
        obtain ⟨h1, h2, h3⟩ := hc
        simp only [Option.some.injEq] at h
        subst h
        have hx := rep_cells (g.eval x) h1
        rw [hpe] at hp
        generalize hv : a.eval p = v at hp
        cases hp with
        | ptr _ _ gg size hg =>
          rcases g.ok.live id _ ho with ⟨g', size', hg', cur, e, fr, hblk, hf, hcs, hrl⟩ | ⟨_, m, e, he⟩
          · rw [hg] at hg'
            injection hg' with hg'
            injection hg' with e1 e2
            subst e1 e2 hcs
            have hvl : (a.eval x).cells.size = szN z := by rw [← Array.length_toList, ← hx.len]; exact h2
            have hcl : cs.length = cur.size := by rw [hrl.len]; simp
            have hrun := run_storeAt hT hz hblk hf hvl (by rw [← hcl]; exact h3) hx.one
            have hL := hrl.setR hx off
            have hwh : ∀ o, Wh gb s.heap gg o := fun o => ⟨id, cur.size, hg, by rw [ho]; trivial⟩
            obtain ⟨cur', hcur'⟩ : ∃ cur' : Array Value, cur' = (cur.toList.take off ++ (a.eval x).cells.toList ++ cur.toList.drop (off + (a.eval x).cells.toList.length)).toArray := ⟨_, rfl⟩
            rw [← hcur'] at hrun
            have hsz : cur'.size = cur.size := by
              have := hL.len
              rw [setR_len (by rw [h2]; exact h3)] at this
              rw [hcur', List.size_toArray, ← this, hcl]
            have hch := chg_row (F := F) (id := id) hwh hblk hsz
            refine wp_skp (w' := w.setRow gg cur') (by unfold execOp; simp only [hop, hv]; rw [Sem.run_bind, hrun]; rfl) (hK _ _ ⟨gb, ?_⟩)
            refine (g.change (oo' := .cells (setR cs off (s.eval x).cells)) ho trivial trivial (fun k => Iff.rfl) hg hch (fun o u _ => .inl (hwh o)) ?_).put hd (.dead _)
            refine ⟨cur', e, fr, setRow_heap w gg cur _ e _ hblk, hf, hsz, ?_⟩
            have e : cur'.toList = cur.toList.take off ++ (a.eval x).cells.toList ++ cur.toList.drop (off + (a.eval x).cells.toList.length) := by rw [hcur']
            rw [e]
            exact hL.keep (chg_keep (oo' := .cells (setR cs off (s.eval x).cells)) ho (fun k => Iff.rfl) hch) (Ext.refl _)
          · cases he
      · cases h
    · cases h
  · rename_i z id sz k off hz hpe
    split at h
    · rename_i e items ho
      split at h
      · rename_i it hit
        split at h
        · rename_i hc
          obtain ⟨⟨h1, h1'⟩, h2, h3⟩ := hc
          simp only [Option.some.injEq] at h
          subst h
          have hx := rep_cells (g.eval x) h1
          rw [hpe] at hp
          generalize hv : a.eval p = v at hp
          cases hp with
          | el _ _ _ _ gg size hg =>
            obtain ⟨h0, hbk⟩ := g.ok.rowAt ho (.inl ⟨true, rfl⟩)
            have hP : szOf P e = sz := by rw [← h0 it (List.mem_of_getElem? hit)]; exact h1'
            rcases hbk with ⟨hn, _⟩ | ⟨g', size', cur, fr, hg', hblk, hf, hcs, hle, hrl, _⟩
            · rw [hn] at hg; cases hg
            · rw [hg] at hg'
              injection hg' with hg'
              injection hg' with e1 e2
              subst e1 e2 hcs
              have hvl : (a.eval x).cells.size = szN z := by rw [← Array.length_toList, ← hx.len]; exact h2
              have hkl : k < items.length := (List.getElem?_eq_some_iff.1 hit).1
              have hfl := flatten_len h0
              rw [hP] at hfl
              have hkk : k * sz + sz ≤ items.flatten.length := by rw [hfl, ← Nat.succ_mul]; exact Nat.mul_le_mul_right _ hkl
              have hrun := run_storeAt (off := k * sz + off) hT hz hblk hf hvl (by omega) hx.one
              have hfs := flatten_set (cs := (s.eval x).cells) (fun it h => (h0 it h).trans hP) hit (off := off) (by rw [h2, ← h1']; exact h3)
              have hL := hrl.setR hx (k * sz + off)
              have hwh : ∀ o, Wh gb s.heap gg o := fun o => ⟨id, cur.size, hg, by rw [ho]; trivial⟩
              obtain ⟨cur', hcur'⟩ : ∃ cur' : Array Value, cur' = (cur.toList.take (k * sz + off) ++ (a.eval x).cells.toList ++ cur.toList.drop (k * sz + off + (a.eval x).cells.toList.length)).toArray := ⟨_, rfl⟩
              rw [← hcur'] at hrun
              have hxl : (a.eval x).cells.toList.length = szN z := by rw [Array.length_toList]; exact hvl
              have hsz : cur'.size = cur.size := by
                rw [hcur', List.size_toArray]
                simp only [List.length_append, List.length_take, List.length_drop, hxl, Array.length_toList]
                omega
              have hch := chg_row (F := F) (id := id) hwh hblk hsz
              have hlen2 : (items.set k (setR it off (s.eval x).cells)).flatten.length = items.flatten.length := by
                rw [hfs, setR_len (by rw [h2]; omega)]
              refine wp_skp (w' := w.setRow gg cur') (by unfold execOp; simp only [hop, hv]; rw [Sem.run_bind, hrun]; rfl) (hK _ _ ⟨gb, ?_⟩)
              refine (g.change (oo' := .row true e (items.set k (setR it off (s.eval x).cells))) ho trivial trivial (fun k => Iff.rfl) hg hch (fun o u _ => .inl (hwh o)) ?_).put hd (.dead _)
              refine ⟨fun it' hit' => ?_, cur', fr, setRow_heap w gg cur _ e _ hblk, hf, hsz, by rw [hlen2]; exact hle, ?_⟩
              · rcases List.mem_or_eq_of_mem_set hit' with h | h
                · exact h0 it' h
                · rw [h, setR_len (by rw [h2]; exact h3)]; exact h0 it (List.mem_of_getElem? hit)
              · have hcut : cur'.toList.take items.flatten.length = (cur.toList.take items.flatten.length).take (k * sz + off) ++ (a.eval x).cells.toList ++ (cur.toList.take items.flatten.length).drop (k * sz + off + (a.eval x).cells.toList.length) := by
                  rw [hcur']
                  have a1 : (cur.toList.take (k * sz + off)).length = k * sz + off := by rw [List.length_take, Array.length_toList]; omega
                  rw [List.take_append, List.take_append, List.length_append, a1, hxl, List.drop_take, List.take_take, List.take_take, Nat.min_comm (k * sz + off) items.flatten.length]
                  congr 1
                  congr 1
                  exact List.take_of_length_le (by rw [hxl]; omega)
                rw [hlen2, hcut, hfs]
                exact hL.keep (chg_keep (oo' := .row true e (items.set k (setR it off (s.eval x).cells))) ho (fun k => Iff.rfl) hch) (Ext.refl _)
        · cases h
      · cases h
    · cases h
  · cases h
end
end Go.Proofs.Ytheanmfdfoefoaa.Hv
