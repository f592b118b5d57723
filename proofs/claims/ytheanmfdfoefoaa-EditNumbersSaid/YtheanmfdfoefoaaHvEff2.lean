/- Abstract values: operations that lay or change objects, all of them. Plain: over any program. -/
import Derived.Test.YtheanmfdfoefoaaHvEff
set_option linter.unusedVariables false
set_option linter.unusedSimpArgs false
namespace Go.Proofs.Ytheanmfdfoefoaa.Hv
open Go Go.RowKit

section
variable {P : Program} {T : Tbl} {A : Vis} {N : Nat} {F : Nat → Nat → Prop} {w0 w w' : World} {gb0 gb gb' : Gb} {H0 H H' : Hp} {s s' : AS} {a : Act} {n n' : Nat} {W : Nat → Nat → Prop} {o : Oper} {K : Act → World → Prop} {Q : Exit → Act → World → Prop}
theorem s_box {e : TypeId} {x : Operand} (hop : o.op = .box e x) (h : feff T A o s = some s') (g : Good P N F w0 gb0 H0 s a w gb) (hd : ∀ k, o.dst = some k → k < N) (hK : ∀ a' w', R P N F w0 gb0 H0 s' a' w' → K a' w') : o.wp P a w K Q := by
  unfold feff at h
  simp only [hop] at h
  split at h
  · rename_i d hod
    split at h
    · rename_i h1
      simp only [Option.some.injEq] at h
      subst h
      have hx := rep_cells (g.eval x) h1
      obtain ⟨b1, b2, b3⟩ := alloc_below w (.cells (a.eval x).cells e)
      refine wp_val (v := .pointer (some ⟨w.heap.size, 0, none⟩)) (w' := w.alloc (.cells (a.eval x).cells e)) (by unfold execOp; simp only [hop]; rfl) (hK _ _ ⟨gbn gb s.next (w.heap.size, (a.eval x).cells.size), ?_⟩)
      have := (g.freshCells hx b1 b2 b3).put (d := some d) (x := .ptr s.next 0) (v := .pointer (some ⟨w.heap.size, 0, none⟩)) (fun k hk => hd k (by rw [hod]; exact hk)) (Rep.ptr _ 0 _ _ (gbn_at gb s.next _))
      rw [hod]; exact this
    · cases h
  · cases h
theorem s_alloc {e : TypeId} (hop : o.op = .alloc e) (hT : T.Ok P) (h : feff T A o s = some s') (g : Good P N F w0 gb0 H0 s a w gb) (hd : ∀ k, o.dst = some k → k < N) (hK : ∀ a' w', R P N F w0 gb0 H0 s' a' w' → K a' w') : o.wp P a w K Q := by
  unfold feff at h
  simp only [hop] at h
  split at h
  · rename_i d z hod hz
    split at h
    · rename_i h1
      simp only [Option.some.injEq] at h
      subst h
      have hzz : (P.info? _).map (·.zero) = some (some z) := hT.zeros _ (lk?_mem hz)
      obtain ⟨b1, b2, b3⟩ := alloc_below w (.cells z.cells e)
      refine wp_val (v := .pointer (some ⟨w.heap.size, 0, none⟩)) (w' := w.alloc (.cells z.cells e)) ?_ (hK _ _ ⟨gbn gb s.next (w.heap.size, z.cells.size), ?_⟩)
      · unfold execOp
        simp only [hop]
        rw [Sem.run_bind]
        simp only [Instr.alloc, Sem.run_bind, run_zero_some hzz, Result.andThen_ok]
        rfl
      · have := (g.freshCells (repL_lits (w := w) (W := Wr F gb s.heap) (gb := gb) h1) b1 b2 b3).put (d := some d) (x := .ptr s.next 0) (v := .pointer (some ⟨w.heap.size, 0, none⟩)) (fun k hk => hd k (by rw [hod]; exact hk)) (Rep.ptr _ 0 _ _ (gbn_at gb s.next _))
        rw [hod]; exact this
    · cases h
  · cases h
theorem fill_row {size : Nat} (g : Good P N F w0 gb0 H0 s a w gb) : ∀ (parts : List (Nat × Operand)) (k : Nat) {B : List AV} {us : Array Value}, parts.map (·.1) = List.range' k parts.length → us.size = (k + parts.length) * size → RepL w (Wr F gb s.heap) gb B (us.toList.take (k * size)) →
    (∀ it ∈ bsItems s.eval parts, it.length = size ∧ it.all AV.isOne = true) →
    ∃ vs : Array Value, Instr.fill (fun i => some (i * size, size)) us (parts.map fun p => (p.1, a.eval p.2)) = some vs ∧ RepL w (Wr F gb s.heap) gb (B ++ (bsItems s.eval parts).flatten) vs.toList := by
  intro parts
  induction parts with
  | nil =>
    intro k B us _ hs hA _
    refine ⟨us, rfl, ?_⟩
    have : us.toList.take (k * size) = us.toList := List.take_of_length_le (by rw [Array.length_toList, hs]; simp)
    rw [this] at hA
    simpa [bsItems] using hA
  | cons p parts ih =>
    obtain ⟨i, x⟩ := p
    intro k B us hix hs hA hit
    rw [List.map_cons, List.length_cons, List.range'_succ] at hix
    injection hix with h0 hix
    simp only at h0
    subst h0
    obtain ⟨h1, h2⟩ := hit _ (by simp only [bsItems, List.map_cons]; exact List.mem_cons_self)
    have hx := rep_cells (g.eval x) h2
    have hsz : (a.eval x).cells.size = size := by rw [← Array.length_toList, ← hx.len]; exact h1
    have hfit : i * size + size ≤ us.size := by
      rw [hs, ← Nat.succ_mul]
      exact Nat.mul_le_mul_right _ (by simp)
    obtain ⟨us', e1, e2⟩ := fill_step (place := fun i => some (i * size, size)) (rest := parts.map fun p => (p.1, a.eval p.2)) (i := i) rfl hsz (cells := us) hfit
    have hl0 : (us.toList.take (i * size)).length = i * size := by rw [List.length_take, Array.length_toList]; omega
    have ht : us'.toList.take ((i + 1) * size) = us.toList.take (i * size) ++ (a.eval x).cells.toList := by
      rw [e1]
      exact List.take_left' (by rw [List.length_append, hl0, Array.length_toList, hsz, Nat.succ_mul])
    have hs' : us'.size = (i + 1 + parts.length) * size := by
      have h3 : us'.toList.length = us.size := by
        rw [e1]
        simp only [List.length_append, List.length_take, List.length_drop, Array.length_toList, hsz]
        omega
      rw [← Array.length_toList, h3, hs, List.length_cons]
      congr 1
      omega
    obtain ⟨vs, hv1, hv2⟩ := ih (i + 1) (B := B ++ (s.eval x).cells) (us := us') hix hs' (by rw [ht]; exact hA.append hx) (fun it h => hit it (by simp only [bsItems, List.map_cons] at h ⊢; exact List.mem_cons_of_mem _ h))
    refine ⟨vs, ?_, ?_⟩
    · rw [List.map_cons, e2]; exact hv1
    · have : (B ++ (bsItems s.eval ((i, x) :: parts)).flatten) = (B ++ (s.eval x).cells) ++ (bsItems s.eval parts).flatten := by simp [bsItems]
      rw [this]; exact hv2
theorem s_bslice {t : TypeId} {m : Nat} {parts : Array (Nat × Operand)} (hop : o.op = .buildSlice t m parts) (hT : T.Ok P) (h : feff T A o s = some s') (g : Good P N F w0 gb0 H0 s a w gb) (hd : ∀ k, o.dst = some k → k < N) (hK : ∀ a' w', R P N F w0 gb0 H0 s' a' w' → K a' w') : o.wp P a w K Q := by
  unfold feff at h
  simp only [hop] at h
  split at h
  · rename_i d I hod hI
    split at h
    · rename_i hc
      obtain ⟨hix, hn, hit⟩ := hc
      simp only [Option.some.injEq] at h
      subst h
      obtain ⟨hu, ⟨i, hi, hz, hsi, hby⟩, hzs, hsz, hbp⟩ := sls_ok hT hI
      have hpl : parts.toList.length = m := by
        have := congrArg List.length hix
        simpa using this
      obtain ⟨vs, hfill, hvs⟩ : ∃ vs : Array Value, (Instr.buildSlice t m (parts.map fun (i, x) => (i, a.eval x))).run P w = .ok (.slice (some ⟨w.heap.size, 0, none⟩) m m) (w.alloc (.cells vs I.e)) ∧ RepL w (Wr F gb s.heap) gb (bsItems s.eval parts.toList).flatten vs.toList := by
        by_cases h0 : m = 0
        · subst h0
          have hp0 : parts = #[] := Array.toList_inj.1 (List.eq_nil_of_length_eq_zero hpl)
          subst hp0
          refine ⟨#[], ?_, RepL.nil⟩
          simp [Instr.buildSlice, run_underlying hu, sizeOf, typeInfo, hi, Instr.fill, newRow, Array.range_zero']
        · obtain ⟨vs, h1, h2⟩ := fill_row (size := I.size) (B := []) g parts.toList 0 (us := (Array.range (m * I.size)).map (I.zero.cells[· % I.zero.cells.size]!)) (by rw [hpl, hix, List.range_eq_range']) (by simp [hpl]) (by simpa using RepL.nil) hit
          refine ⟨vs, ?_, by simpa using h2⟩
          have hpos : ¬ m * I.size = 0 := by
            intro h
            rcases Nat.mul_eq_zero.1 h with h | h <;> omega
          refine run_buildSlice w t I.e m _ vs i I.zero hu hi hz (by rw [hsi]; omega) (by rw [hsi]; exact hpos) ?_
          rw [hsi, Array.toList_map]
          exact h1
      have hlen : (bsItems s.eval parts.toList).length = m := by unfold bsItems; rw [List.length_map]; exact hpl
      have hfl := flatten_len (fun it h => (hit it h).1)
      have hvsz : vs.size = m * I.size := by rw [← Array.length_toList, ← hvs.len, hfl, hlen]
      have hcap : m ≤ maxLen := by
        have := Nat.le_mul_of_pos_right m hsz
        simp only [maxLen]; omega
      obtain ⟨b1, b2, b3⟩ := alloc_below w (.cells vs I.e)
      refine wp_val (v := .slice (some ⟨w.heap.size, 0, none⟩) m m) (w' := w.alloc (.cells vs I.e)) (by unfold execOp; simp only [hop]; rw [Sem.run_bind, hfill]; rfl) (hK _ _ ⟨gbn gb s.next (w.heap.size, vs.size), ?_⟩)
      have ht : vs.toList.take (bsItems s.eval parts.toList).flatten.length = vs.toList := List.take_of_length_le (by rw [hvs.len]; exact Nat.le_refl _)
      have := (g.freshRow (m := A.muts.elem d) (items := bsItems s.eval parts.toList) (by rw [szOf_sl hT hI]; exact fun it h => (hit it h).1) (by rw [hfl, hlen, hvsz]; exact Nat.le_refl _) (cold0 _) (by rw [ht]; exact hvs) b1 b2 b3).put (d := some d) (x := .rw s.next I.size 0 m) (v := .slice (some ⟨w.heap.size, 0, none⟩) m m) (fun k hk => hd k (by rw [hod]; exact hk))
        (by have := Rep.rw (w := w.alloc (.cells vs I.e)) (W := Wr F (gbn gb s.next (w.heap.size, vs.size)) (s.fresh (.row (A.muts.elem d) I.e (bsItems s.eval parts.toList))).heap) s.next I.size 0 m _ _ m (gbn_at gb s.next (w.heap.size, vs.size)) (by rw [hvsz]; simp) (Nat.le_refl _) hcap
            rwa [Nat.zero_mul] at this)
      rw [hod]; exact this
    · cases h
  · cases h
theorem zeros_mod {z : Array Value} (hz : 0 < z.size) : ∀ k : Nat, ((Array.range (k * z.size)).map (z[· % z.size]!)).toList = (List.replicate k z.toList).flatten := by
  intro k
  induction k with
  | zero => simp
  | succ k ih =>
    rw [List.replicate_succ', List.flatten_append, ← ih]
    apply List.ext_getElem?
    intro j
    simp only [Array.toList_map, Array.toList_range, List.getElem?_map, List.flatten_cons, List.flatten_nil, List.append_nil]
    by_cases h1 : j < k * z.size
    · have h2 : j < (k + 1) * z.size := by rw [Nat.succ_mul]; omega
      rw [List.getElem?_append_left (by simpa using h1)]
      simp [h1, h2]
    · rw [List.getElem?_append_right (by simpa using h1)]
      simp only [List.length_map, List.length_range]
      by_cases h2 : j < (k + 1) * z.size
      · rw [Nat.succ_mul] at h2
        have h3 : j - k * z.size < z.size := by omega
        have h4 : j % z.size = j - k * z.size := by
          have : j = (j - k * z.size) + k * z.size := by omega
          rw [this, Nat.add_mul_mod_self_right, Nat.mod_eq_of_lt h3]; omega
        rw [List.getElem?_range (by rw [Nat.succ_mul]; omega)]
        simp [h4, h3]
      · rw [Nat.succ_mul] at h2
        rw [List.getElem?_eq_none (by simp; rw [Nat.succ_mul]; omega)]
        simp; omega
theorem s_mslice {t : TypeId} {l c : Operand} (hop : o.op = .makeSlice t l c) (hT : T.Ok P) (h : feff T A o s = some s') (g : Good P N F w0 gb0 H0 s a w gb) (hd : ∀ k, o.dst = some k → k < N) (hK : ∀ a' w', R P N F w0 gb0 H0 s' a' w' → K a' w') : o.wp P a w K Q := by
  unfold feff at h
  simp only [hop] at h
  split at h
  · rename_i d I k1 lv k2 cv hod hI hl hc
    split at h
    · rename_i hb
      obtain ⟨⟨b1, b2, b3⟩, hone⟩ := hb
      simp only [Option.some.injEq] at h
      subst h
      obtain ⟨hu, ⟨i, hi, hz, hsi, hby⟩, hzs, hsz, hbp⟩ := sls_ok hT hI
      have h63 : cv ≤ 9223372036854775807 := by
        have : (1 : Int) * cv ≤ I.bytes * cv := Int.mul_le_mul_of_nonneg_right (by omega) (by omega)
        omega
      have hcm : cv.toNat ≤ maxLen := by simp only [maxLen]; omega
      have hrun := run_make (P := P) w t I.e i I.zero hu hi hz k1 k2 lv cv b1 b2 (by rw [hby]; omega) h63
      obtain ⟨m, hm⟩ : ∃ m, lv.toNat = m := ⟨_, rfl⟩
      obtain ⟨k, hk⟩ : ∃ k, cv.toNat = k := ⟨_, rfl⟩
      have hmk : m ≤ k := by omega
      rw [hm, hk, hsi] at hrun
      have hsz' : (madeCells I.zero.cells (k * I.size)).size = k * I.size := size_madeCells _ _
      have hcells : (madeCells I.zero.cells (k * I.size)).toList = (List.replicate k I.zero.cells.toList).flatten := by
        unfold madeCells
        rw [← hzs]
        exact zeros_mod (by omega) k
      have hzl : (zeroA I.zero).length = I.size := by unfold zeroA; rw [List.length_map, Array.length_toList]; exact hzs
      have hfl : (List.replicate m (zeroA I.zero)).flatten.length = m * I.size := by
        rw [flatten_len (sz := I.size) (fun it hit => by rw [List.eq_of_mem_replicate hit]; exact hzl), List.length_replicate]
      have hrow : RepL w (Wr F gb s.heap) gb (List.replicate m (zeroA I.zero)).flatten ((madeCells I.zero.cells (k * I.size)).toList.take (List.replicate m (zeroA I.zero)).flatten.length) := by
        have e1 : (madeCells I.zero.cells (k * I.size)).toList.take (m * I.size) = (List.replicate m I.zero.cells.toList).flatten := by
          rw [hcells]
          have : List.replicate k I.zero.cells.toList = List.replicate m I.zero.cells.toList ++ List.replicate (k - m) I.zero.cells.toList := by
            rw [List.replicate_append_replicate]; congr 1; omega
          rw [this, List.flatten_append]
          exact List.take_left' (by rw [List.length_flatten]; simp [hzs])
        rw [hfl, e1]
        clear hfl e1 hm hmk hrun
        induction m with
        | zero => simpa using RepL.nil
        | succ m ih =>
          rw [List.replicate_succ, List.replicate_succ, List.flatten_cons, List.flatten_cons]
          exact (repL_lits hone).append ih
      obtain ⟨c1, c2, c3⟩ := alloc_below w (.cells (madeCells I.zero.cells (k * I.size)) I.e)
      refine wp_val (v := .slice (some ⟨w.heap.size, 0, none⟩) m k) (w' := w.alloc (.cells (madeCells I.zero.cells (k * I.size)) I.e)) ?_ (hK _ _ ⟨gbn gb s.next (w.heap.size, (madeCells I.zero.cells (k * I.size)).size), ?_⟩)
      · unfold execOp
        simp only [hop, rep_int (g.eval l) hl, rep_int (g.eval c) hc]
        rw [Sem.run_bind, hrun]
        rfl
      · have := (g.freshRow (m := A.muts.elem d) (items := List.replicate m (zeroA I.zero)) (by rw [szOf_sl hT hI]; exact fun it hit => by rw [List.eq_of_mem_replicate hit]; exact hzl) (by rw [hfl, hsz']; exact Nat.mul_le_mul_right _ hmk) (cold0 _) hrow c1 c2 c3).put (d := some d) (x := .rw s.next I.size 0 m) (v := .slice (some ⟨w.heap.size, 0, none⟩) m k) (fun k hk => hd k (by rw [hod]; exact hk))
          (by have := Rep.rw (w := w.alloc (.cells (madeCells I.zero.cells (k * I.size)) I.e)) (W := Wr F (gbn gb s.next (w.heap.size, (madeCells I.zero.cells (k * I.size)).size)) (s.fresh (.row (A.muts.elem d) I.e (List.replicate m (zeroA I.zero)))).heap) s.next I.size 0 m _ _ k (gbn_at gb s.next (w.heap.size, (madeCells I.zero.cells (k * I.size)).size)) (by rw [hsz']; simp) hmk (by rw [← hk]; exact hcm)
              rwa [Nat.zero_mul] at this)
        rw [hod, hm]; exact this
    · cases h
  · cases h
theorem s_mmap {t : TypeId} (hop : o.op = .makeMap t none) (h : feff T A o s = some s') (g : Good P N F w0 gb0 H0 s a w gb) (hd : ∀ k, o.dst = some k → k < N) (hK : ∀ a' w', R P N F w0 gb0 H0 s' a' w' → K a' w') : o.wp P a w K Q := by
  unfold feff at h
  simp only [hop] at h
  split at h
  · rename_i d I hod hI
    simp only [Option.some.injEq] at h
    subst h
    obtain ⟨b1, b2, b3⟩ := alloc_below w (.map #[] 0)
    refine wp_val (v := .map (some w.heap.size)) (w' := w.alloc (.map #[] 0)) (by unfold execOp; simp only [hop]; rfl) (hK _ _ ⟨gbn gb s.next (w.heap.size, 0), ?_⟩)
    have := (g.fresh (oo := .map [] 0) (size := 0) b1 b2 ⟨#[], b3, rfl, fun j e x hj => by simp at hj⟩).put (d := some d) (x := .mp s.next) (v := .map (some w.heap.size)) (fun k hk => hd k (by rw [hod]; exact hk)) (Rep.mp _ _ _ (gbn_at gb s.next _))
    rw [hod]; exact this
  · cases h
theorem s_range {t : TypeId} {x : Operand} (hop : o.op = .range t x) (hT : T.Ok P) (h : feff T A o s = some s') (g : Good P N F w0 gb0 H0 s a w gb) (hd : ∀ k, o.dst = some k → k < N) (hK : ∀ a' w', R P N F w0 gb0 H0 s' a' w' → K a' w') : o.wp P a w K Q := by
  unfold feff at h
  simp only [hop] at h
  split at h
  · rename_i d I id hod hI hx
    split at h
    · rename_i es clock ho
      simp only [Option.some.injEq] at h
      subst h
      have he := g.eval x
      rw [hx] at he
      obtain ⟨gg, size, ents, hg, hv, hb, hl, hrep⟩ := rep_map g.ok he ho
      obtain ⟨hu, _⟩ := hT.maps _ (lk?_mem hI)
      obtain ⟨b1, b2, b3⟩ := alloc_below w (.mapIter (some gg) clock #[] clock)
      refine wp_val (v := .pointer (some ⟨w.heap.size, 0, none⟩)) (w' := w.alloc (.mapIter (some gg) clock #[] clock)) ?_ (hK _ _ ⟨gbn gb s.next (w.heap.size, 0), ?_⟩)
      · unfold execOp
        simp only [hop, hv]
        rw [Sem.run_bind]
        simp [Instr.range, run_underlying hu, Go.MapKept.run_getObj_map hb]
      · have := (g.fresh (oo := .iter (some id) clock [] clock) (size := 0) b1 b2 ⟨some gg, ⟨size, gbn_ext g.ok _ _ _ hg⟩, b3⟩).put (d := some d) (x := .ptr s.next 0) (v := .pointer (some ⟨w.heap.size, 0, none⟩)) (fun k hk => hd k (by rw [hod]; exact hk)) (Rep.ptr _ 0 _ _ (gbn_at gb s.next _))
        rw [hod]; exact this
    · cases h
  · cases h
theorem byteA_flat (l : List UInt8) : (l.map byteA).flatten = l.map fun b => AV.lit (.int .u8 b.toNat) := by
  induction l with
  | nil => rfl
  | cons b l ih => simp [byteA, ih]
theorem s_tobytes {t0 t : TypeId} {x : Operand} (hop : o.op = .convert t0 t x) (hT : T.Ok P) (h : feff T A o s = some s') (g : Good P N F w0 gb0 H0 s a w gb) (hd : ∀ k, o.dst = some k → k < N) (hK : ∀ a' w', R P N F w0 gb0 H0 s' a' w' → K a' w') : o.wp P a w K Q := by
  unfold feff at h
  simp only [hop] at h
  split at h
  · rename_i d u I hod hx hI
    cases hb : (T.strs.elem t0 && T.byts.elem t && Nat.ble u.size 140737488355328) with
    | false => rw [hb] at h; cases h
    | true =>
      rw [hb] at h
      rw [Bool.and_eq_true, Bool.and_eq_true] at hb
      simp only [cond_true, Option.some.injEq] at h
      subst h
      have husz := Nat.le_of_ble_eq_true hb.2
      replace hb := hb.1
      obtain ⟨e, h1, h2, h3⟩ := hT.byts t (List.elem_iff.1 hb.2)
      have h4 := hT.strs t0 (List.elem_iff.1 hb.1)
      have hv : a.eval x = .string u := by have := g.eval x; rw [hx] at this; exact rep_lit this
      have hE : I.e = e := by
        have := (sls_ok hT hI).ht
        rw [this] at h1
        injection h1 with h1
        injection h1 with h1
      subst hE
      have hI1 : I.size = 1 := by
        obtain ⟨_, ⟨i, hi, _, hs, _⟩, _⟩ := sls_ok hT hI
        rw [hi] at h3
        simp only [Option.map_some, Option.some.injEq] at h3
        omega
      have hge := grownCap_ge w u.size 0 I.e
      have hrun := run_bytes_of_string (P := P) w t0 t I.e u h4 h1 h2
      have hul : u.data.toList.length = u.size := by simp
      have hbs : (bytesRow u (grownCap w u.size 0 I.e)).size = grownCap w u.size 0 I.e := by
        have : u.data.size = u.size := rfl
        simp [bytesRow, this]; omega
      have hpre : (bytesRow u (grownCap w u.size 0 I.e)).toList.take u.size = u.data.toList.map fun b => Value.int .u8 b.toNat := by
        simp only [bytesRow, Array.toList_append, Array.toList_map]
        exact List.take_left' (by rw [List.length_map]; exact hul)
      have hcap : grownCap w u.size 0 I.e ≤ maxLen := grownCap_le_maxLen w u.size 0 I.e (by simp only [maxLen]; omega)
      · obtain ⟨c1, c2, c3⟩ := dalloc_below w (.cells (bytesRow u (grownCap w u.size 0 I.e)) I.e ((bytesRow u (grownCap w u.size 0 I.e)).size, (bytesRow u (grownCap w u.size 0 I.e)).size + 1))
        refine wp_val (v := .slice (some ⟨w.heap.size, 0, none⟩) u.size (grownCap w u.size 0 I.e)) (by unfold execOp; simp only [hop, hv]; rw [Sem.run_bind, hrun]; rfl) (hK _ _ ⟨gbn gb s.next (w.heap.size, (bytesRow u (grownCap w u.size 0 I.e)).size), ?_⟩)
        have hfl : (bytesA u).flatten.length = u.size := by unfold bytesA; rw [byteA_flat, List.length_map]; exact hul
        have := (g.freshRow (m := A.muts.elem d) (items := bytesA u) (by rw [szOf_sl hT hI, hI1]; intro it hit; obtain ⟨b, _, rfl⟩ := List.mem_map.1 hit; rfl) (by rw [hfl, hbs]; exact hge) (.inr (Nat.le_refl _)) (by
            rw [hfl, hpre]
            unfold bytesA
            rw [byteA_flat]
            have := repL_lits (w := w) (W := Wr F gb s.heap) (gb := gb) (us := u.data.toList.map fun b => Value.int .u8 b.toNat) (by rw [List.all_eq_true]; intro y hy; obtain ⟨v, hv, rfl⟩ := List.mem_map.1 hy; obtain ⟨b, _, rfl⟩ := List.mem_map.1 hv; rfl)
            rwa [List.map_map] at this) c1 c2 c3).put (d := some d) (x := .rw s.next 1 0 u.size) (v := .slice (some ⟨w.heap.size, 0, none⟩) u.size (grownCap w u.size 0 I.e)) (fun k hk => hd k (by rw [hod]; exact hk))
          (by have := Rep.rw (w := w.drew.alloc (.cells (bytesRow u (grownCap w u.size 0 I.e)) I.e ((bytesRow u (grownCap w u.size 0 I.e)).size, (bytesRow u (grownCap w u.size 0 I.e)).size + 1))) (W := Wr F (gbn gb s.next (w.heap.size, (bytesRow u (grownCap w u.size 0 I.e)).size)) (s.fresh (.row (A.muts.elem d) I.e (bytesA u))).heap) s.next 1 0 u.size _ _ (grownCap w u.size 0 I.e) (gbn_at gb s.next (w.heap.size, (bytesRow u (grownCap w u.size 0 I.e)).size)) (by rw [hbs]; simp) hge hcap
              rwa [Nat.zero_mul] at this)
        rw [hod]; exact this
  · cases h
theorem set_chg {gg : Nat} {ents : Array MapEntry} {clock : Nat} {ob : Obj} (hb : w.heap[gg]? = some (.map ents clock)) : Chg F gb H gg w { w with heap := w.heap.setIfInBounds gg ob } ∧ ({ w with heap := w.heap.setIfInBounds gg ob } : World).heap[gg]? = some ob := by
  have h := Go.MapKept.heap_set (o' := ob) hb
  refine ⟨⟨rfl, rfl, rfl, by simp, fun k hk => h.2 k hk, fun o u _ hc => ?_, fun cur e fr hc => ?_⟩, h.1⟩
  · simp [World.cell?, hb] at hc
  · rw [hb] at hc; cases hc
theorem map_wr (k : Nat) {es es' : List ME} {c c' : Nat} : wrO (some (.map es' c')) k ↔ wrO (some (.map es c)) k := Iff.rfl
theorem s_mupd {t : TypeId} {m k x : Operand} (hop : o.op = .mapUpdate t m k x) (hT : T.Ok P) (h : feff T A o s = some s') (g : Good P N F w0 gb0 H0 s a w gb) (hd : ∀ k, o.dst = some k → k < N) (hK : ∀ a' w', R P N F w0 gb0 H0 s' a' w' → K a' w') : o.wp P a w K Q := by
  unfold feff at h
  simp only [hop] at h
  split at h
  · rename_i I id hI hm
    cases hkk : keyKind T I.key (s.eval k) with
    | false => rw [hkk] at h; cases h
    | true =>
      rw [hkk] at h
      simp only [cond_true] at h
      split at h
      · rename_i es clock ho
        have he := g.eval m
        rw [hm] at he
        obtain ⟨gg, size, ents, hg, hv, hb, hl, hrep⟩ := rep_map g.ok he ho
        obtain ⟨hu, _⟩ := hT.maps _ (lk?_mem hI)
        have hik := isKey_of hT hkk (g.eval k)
        have fin : ∀ (ents' : Array MapEntry) (es' : List ME) (clock' : Nat), (Instr.mapUpdate t (.map (some gg)) (a.eval k) (a.eval x)).run P w = .ok () { w with heap := w.heap.setIfInBounds gg (.map ents' clock') } → es'.length = ents'.size → (∀ (j : Nat) (e : ME) (x : MapEntry), es'[j]? = some e → ents'[j]? = some x → RepE w (Wr F gb s.heap) gb e x) →
            s' = (s.chg id (some (.map es' clock'))).put o.dst .dead → o.wp P a w K Q := by
          intro ents' es' clock' hrun hl' hrep' hs'
          subst hs'
          obtain ⟨hch, hblk⟩ := set_chg (F := F) (gb := gb) (H := s.heap) (ob := .map ents' clock') hb
          refine wp_skp (w' := { w with heap := w.heap.setIfInBounds gg (.map ents' clock') }) (by unfold execOp; simp only [hop, hv]; rw [Sem.run_bind, hrun]; rfl) (hK _ _ ⟨gb, ?_⟩)
          refine (g.change (oo' := .map es' clock') ho trivial trivial (fun k => Iff.rfl) hg hch (fun o u hc => by simp [World.cell?, hb] at hc) ?_).put hd (.dead _)
          have hkp := chg_keep (oo' := .map es' clock') ho (fun k => Iff.rfl) hch
          exact ⟨ents', hblk, hl', fun j e x hj hx => ⟨(hrep' j e x hj hx).born, (hrep' j e x hj hx).key.keep hkp (Ext.refl _), (hrep' j e x hj hx).val.keep hkp (Ext.refl _)⟩⟩
        split at h
        · rename_i i v hmf
          split at h
          · rename_i e hei
            simp only [Option.some.injEq] at h
            rcases hik.find es ents.toList _ (by simpa using hl) (fun j e x he hx => hrep j e x he (by simpa using hx)) hmf with ⟨h1, _⟩ | ⟨j', v', x', e', h1, h2, h3, h4, h5, h6⟩
            · cases h1
            · injection h1 with h1
              injection h1 with e1 e2
              subst e1
              rw [hei] at h2
              injection h2 with h2
              subst h2
              have h3' : ents[i]? = some x' := by simpa using h3
              have hxk : (Instr.keyThatStays x'.key (a.eval k)).run P w = .ok (a.eval k) w := by
                have hkeq : x'.key = a.eval k := hik.same _ _ h5 (hrep i e x' hei h3').key
                rw [hkeq]; exact hik.stays
              refine fin (ents.modify i fun e => { e with key := a.eval k, val := a.eval x }) (es.set i ⟨s.eval k, s.eval x, e.born⟩) clock ?_ (by simp [hl]) (fun j e2 x2 hj hx2 => ?_) h.symm
              · simp [Instr.mapUpdate, run_underlying hu, Go.MapKept.run_getObj_map hb, hik.check, h6, h3', hxk, Go.MapKept.run_setObj_map _ hb]
              · rw [Array.getElem?_modify] at hx2
                by_cases hji : i = j
                · subst hji
                  rw [if_pos rfl, h3'] at hx2
                  simp only [Option.map_some, Option.some.injEq] at hx2
                  have hlt := (List.getElem?_eq_some_iff.1 hei).1
                  rw [List.getElem?_set_self hlt] at hj
                  injection hj with hj
                  subst hj hx2
                  exact ⟨(hrep i e x' hei h3').born, g.eval k, g.eval x⟩
                · rw [if_neg hji] at hx2
                  rw [List.getElem?_set_ne hji] at hj
                  exact hrep j e2 x2 hj hx2
          · cases h
        · rename_i hmf
          simp only [Option.some.injEq] at h
          rcases hik.find es ents.toList _ (by simpa using hl) (fun j e x he hx => hrep j e x he (by simpa using hx)) hmf with ⟨_, h2⟩ | ⟨j', v', x', e', h1, _⟩
          · refine fin (ents.push { key := a.eval k, val := a.eval x, born := clock }) (es ++ [⟨s.eval k, s.eval x, clock⟩]) (clock + 1) ?_ (by simp [hl]) (fun j e2 x2 hj hx2 => ?_) h.symm
            · simp [Instr.mapUpdate, run_underlying hu, Go.MapKept.run_getObj_map hb, hik.check, h2, Go.MapKept.run_setObj_map _ hb]
            · rw [Array.getElem?_push] at hx2
              by_cases hj2 : j = ents.size
              · rw [if_pos hj2] at hx2
                injection hx2 with hx2
                rw [List.getElem?_append_right (by omega), hj2, hl, Nat.sub_self] at hj
                simp only [List.getElem?_cons_zero, Option.some.injEq] at hj
                subst hj hx2
                exact ⟨rfl, g.eval k, g.eval x⟩
              · rw [if_neg hj2] at hx2
                have hlt := (Array.getElem?_eq_some_iff.1 hx2).1
                rw [List.getElem?_append_left (by omega)] at hj
                exact hrep j e2 x2 hj hx2
          · cases h1
        · cases h
      · cases h
  · cases h
theorem s_del {c : Call} {m k : Operand} {t : TypeId} {ts : List TypeId} (hop : o.op = .call c) (hc : c.callee = .builtin .delete) (hx : c.args.toList = [m, k]) (ht : c.argTypes.toList = t :: ts) (hT : T.Ok P) (h : feff T A o s = some s') (g : Good P N F w0 gb0 H0 s a w gb) (hd : ∀ k, o.dst = some k → k < N) (hK : ∀ a' w', R P N F w0 gb0 H0 s' a' w' → K a' w') : o.wp P a w K Q := by
  unfold feff at h
  simp only [hop, hc, hx, ht] at h
  obtain ⟨callee, args, argTypes⟩ := c
  obtain rfl : args = #[m, k] := Array.toList_inj.1 hx
  have ht' : argTypes[0]? = some t := by rw [← Array.getElem?_toList, ht]; rfl
  simp only at hc
  subst hc
  split at h
  · rename_i I id hI hm
    cases hkk : keyKind T I.key (s.eval k) with
    | false => rw [hkk] at h; cases h
    | true =>
      rw [hkk] at h
      simp only [cond_true] at h
      split at h
      · rename_i es clock ho
        have he := g.eval m
        rw [hm] at he
        obtain ⟨gg, size, ents, hg, hv, hb, hl, hrep⟩ := rep_map g.ok he ho
        obtain ⟨hu, _⟩ := hT.maps _ (lk?_mem hI)
        have hik := isKey_of hT hkk (g.eval k)
        have hck := hik.check
        have fin : ∀ (ents' : Array MapEntry) (es' : List ME), (Builtin.delete_ argTypes o.type #[.map (some gg), a.eval k]).run P w = .ok (.tuple #[]) { w with heap := w.heap.setIfInBounds gg (.map ents' clock) } → es'.length = ents'.size → (∀ (j : Nat) (e : ME) (x : MapEntry), es'[j]? = some e → ents'[j]? = some x → RepE w (Wr F gb s.heap) gb e x) →
            s' = (s.chg id (some (.map es' clock))).put o.dst (.tup []) → o.wp P a w K Q := by
          intro ents' es' hrun hl' hrep' hs'
          subst hs'
          obtain ⟨hch, hblk⟩ := set_chg (F := F) (gb := gb) (H := s.heap) (ob := .map ents' clock) hb
          refine wp_val (v := .tuple #[]) (w' := { w with heap := w.heap.setIfInBounds gg (.map ents' clock) }) (by unfold execOp; simp [hop, resolve, invoke, builtin, hv, hrun]) (hK _ _ ⟨gb, ?_⟩)
          refine (g.change (oo' := .map es' clock) ho trivial trivial (fun k => Iff.rfl) hg hch (fun o u hc => by simp [World.cell?, hb] at hc) ?_).put hd (Rep.tup [] [] rfl (fun j c u hc => by simp at hc))
          have hkp := chg_keep (oo' := .map es' clock) ho (fun k => Iff.rfl) hch
          exact ⟨ents', hblk, hl', fun j e x hj hx => ⟨(hrep' j e x hj hx).born, (hrep' j e x hj hx).key.keep hkp (Ext.refl _), (hrep' j e x hj hx).val.keep hkp (Ext.refl _)⟩⟩
        split at h
        · rename_i i v hmf
          simp only [Option.some.injEq] at h
          rcases hik.find es ents.toList _ (by simpa using hl) (fun j e x he hx => hrep j e x he (by simpa using hx)) hmf with ⟨h1, _⟩ | ⟨j', v', x', e', h1, h2, h3, h4, h5, h6⟩
          · cases h1
          · injection h1 with h1
            injection h1 with e1 e2
            subst e1
            have hlt : i < ents.size := by have := (List.getElem?_eq_some_iff.1 h2).1; omega
            refine fin (ents.eraseIdxIfInBounds i) (es.eraseIdx i) ?_ ?_ (fun j e2 x2 hj hx2 => ?_) h.symm
            · simp [Builtin.delete_, ht', run_underlying hu, Go.MapKept.run_getObj_map hb, hck, h6, Go.MapKept.run_setObj_map _ hb]
            · unfold Array.eraseIdxIfInBounds
              rw [dif_pos hlt, List.length_eraseIdx, if_pos (by omega), Array.size_eraseIdx, hl]
            · unfold Array.eraseIdxIfInBounds at hx2
              rw [dif_pos hlt] at hx2
              rw [← Array.getElem?_toList, Array.toList_eraseIdx, List.getElem?_eraseIdx] at hx2
              rw [List.getElem?_eraseIdx] at hj
              split at hj
              · rename_i hji
                rw [if_pos hji] at hx2
                exact hrep j e2 x2 hj (by simpa using hx2)
              · rename_i hji
                rw [if_neg hji] at hx2
                exact hrep (j + 1) e2 x2 hj (by simpa using hx2)
        · rename_i hmf
          simp only [Option.some.injEq] at h
          rcases hik.find es ents.toList _ (by simpa using hl) (fun j e x he hx => hrep j e x he (by simpa using hx)) hmf with ⟨_, h2⟩ | ⟨j', v', x', e', h1, _⟩
          · refine fin ents es ?_ hl hrep h.symm
            simp [Builtin.delete_, ht', run_underlying hu, Go.MapKept.run_getObj_map hb, hck, h2, Go.MapKept.run_setObj_map _ hb]
          · cases h1
        · cases h
      · cases h
  · cases h
theorem feff_sound (hT : T.Ok P) (h : feff T A o s = some s') (g : Good P N F w0 gb0 H0 s a w gb) (hd : ∀ k, o.dst = some k → k < N) (hK : ∀ a' w', R P N F w0 gb0 H0 s' a' w' → K a' w') : o.wp P a w K Q := by
  cases hop : o.op with
  | box e x => exact s_box hop h g hd hK
  | alloc e => exact s_alloc hop hT h g hd hK
  | buildSlice t m parts => exact s_bslice hop hT h g hd hK
  | makeSlice t l c => exact s_mslice hop hT h g hd hK
  | makeMap t r =>
    cases r with
    | none => exact s_mmap hop h g hd hK
    | some r => unfold feff at h; simp only [hop] at h; cases h
  | range t x => exact s_range hop hT h g hd hK
  | convert t0 t x => exact s_tobytes hop hT h g hd hK
  | store t p x => exact s_store hop hT h g hd hK
  | mapUpdate t m k x => exact s_mupd hop hT h g hd hK
  | call c =>
    have h' := h
    unfold feff at h'
    simp only [hop] at h'
    split at h'
    · rename_i m k t ts hc hx ht
      exact s_del hop hc hx ht hT h g hd hK
    · cases h'
  | _ => unfold feff at h; simp only [hop] at h; cases h
end
end Go.Proofs.Ytheanmfdfoefoaa.Hv
