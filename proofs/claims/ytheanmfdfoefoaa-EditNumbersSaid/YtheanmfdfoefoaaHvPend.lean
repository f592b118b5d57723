/- Abstract values: allocations that the machine does before their turn. Plain: over any program. -/
import Derived.Test.YtheanmfdfoefoaaHvLoc
set_option linter.unusedVariables false
set_option linter.unusedSimpArgs false
namespace Go.Proofs.Ytheanmfdfoefoaa.Hv
open Go Go.RowKit

section
variable {P : Program} {T : Tbl} {A : Vis} {N : Nat} {F F' : Nat → Nat → Prop} {w0 w w' : World} {gb0 gb gb' : Gb} {H0 H H' : Hp} {s s' s1 : AS} {a a' : Act} {n n' : Nat} {o : Oper} {K : Act → World → Prop} {Q : Exit → Act → World → Prop}
theorem newOf_op {ρ : Operand → AV} {d : Nat} {oo : AO} {v : Nat → AV} (h : newOf T A o ρ = some (d, oo, v)) : o.dst = some d ∧ isNew o = true := by
  unfold newOf at h
  split at h
  · rename_i e hop
    split at h
    · rename_i d' z hd hz
      split at h
      · simp only [Option.some.injEq, Prod.mk.injEq] at h
        rw [← h.1]; exact ⟨hd, by unfold isNew; rw [hop]⟩
      · cases h
    · cases h
  · rename_i t l c hop
    split at h
    · rename_i d' I k1 l1 k2 c1 hd hI h3 h4
      split at h
      · simp only [Option.some.injEq, Prod.mk.injEq] at h
        rw [← h.1]; exact ⟨hd, by unfold isNew; rw [hop]⟩
      · cases h
    · cases h
  · cases h
theorem newOf_fop {d : Nat} {oo : AO} {v : Nat → AV} (h : newOf T A o s.eval = some (d, oo, v)) : fop T A o s = some ((s.fresh oo).set d (v s.next)) := by
  have key : feff T A o s = some ((s.fresh oo).set d (v s.next)) ∧ fval T s.heap o.op s.eval = none ∧ (∀ x, o.op ≠ .assign x) := by
    unfold newOf at h
    split at h
    · rename_i e hop
      refine ⟨?_, by rw [hop]; rfl, fun x hx => by rw [hop] at hx; cases hx⟩
      unfold feff
      simp only [hop]
      split at h
      · rename_i d' z hd hz
        split at h
        · rename_i hc
          simp only [Option.some.injEq, Prod.mk.injEq] at h
          obtain ⟨rfl, rfl, rfl⟩ := h
          simp only [hd, hz]
          rw [if_pos hc]
        · cases h
      · cases h
    · rename_i t l c hop
      refine ⟨?_, by rw [hop]; rfl, fun x hx => by rw [hop] at hx; cases hx⟩
      unfold feff
      simp only [hop]
      split at h
      · rename_i d' I k1 l1 k2 c1 hd hI h3 h4
        split at h
        · rename_i hc
          simp only [Option.some.injEq, Prod.mk.injEq] at h
          obtain ⟨rfl, rfl, rfl⟩ := h
          simp only [hd, hI, h3, h4]
          rw [if_pos hc]
        · cases h
      · cases h
    · cases h
  obtain ⟨h1, h2, h3⟩ := key
  unfold fop
  split
  · rename_i x hx; exact absurd hx (h3 x)
  · rw [h2, h1]
theorem newOf_local {all : List Oper} {r : Option (Nat × AO × (Nat → AV))} (ha : ∀ t ∈ namesOf all o, s1.get t = s.get t) (h : newOf T A o s.eval = r) : newOf T A o s1.eval = r := by
  have he := eval_agree ha
  rw [← h]
  unfold newOf
  cases hop : o.op with
  | makeSlice t l c =>
    have h1 := he l (by rw [hop]; simp [Op.operands])
    have h2 := he c (by rw [hop]; simp [Op.operands])
    simp only [h1, h2]
  | _ => rfl
/-- What the machine makes of it: a block that nobody knows. -/
theorem newOf_run {d : Nat} {oo : AO} {v : Nat → AV} (hT : T.Ok P) (h : newOf T A o s.eval = some (d, oo, v)) (g : Good P N F w0 gb0 H0 s a w gb) :
    ∃ (val : Value) (ob : Obj) (size : Nat), (execOp a.eval o).run P w = .ok (.value val) (w.alloc ob) ∧
      ∀ (w' : World) (W : Nat → Nat → Prop) (gb' : Gb) (id : Nat), w'.heap[w.heap.size]? = some ob → gb' id = some (w.heap.size, size) → ObjRep P w' W gb' w.heap.size size oo ∧ Rep w' W gb' (v id) val := by
  unfold newOf at h
  split at h
  · rename_i e hop
    split at h
    · rename_i d' z hd hz
      split at h
      · rename_i h1
        simp only [Option.some.injEq, Prod.mk.injEq] at h
        obtain ⟨rfl, rfl, rfl⟩ := h
        have hzz : (P.info? e).map (·.zero) = some (some z) := hT.zeros _ (lk?_mem hz)
        refine ⟨.pointer (some ⟨w.heap.size, 0, none⟩), .cells z.cells e, z.cells.size, ?_, fun w' W gb' id hb hg => ⟨⟨z.cells, e, (0, 0), hb, cold0 _, rfl, repL_lits h1⟩, Rep.ptr _ 0 _ _ hg⟩⟩
        unfold execOp
        simp only [hop]
        rw [Sem.run_bind]
        simp only [Instr.alloc, Sem.run_bind, run_zero_some hzz, Result.andThen_ok]
        rfl
      · cases h
    · cases h
  · rename_i t l c hop
    split at h
    · rename_i d' I k1 lv k2 cv hd hI hl hc
      split at h
      · rename_i hb
        obtain ⟨⟨b1, b2, b3⟩, hone⟩ := hb
        simp only [Option.some.injEq, Prod.mk.injEq] at h
        obtain ⟨rfl, rfl, rfl⟩ := h
        obtain ⟨hu, ⟨i, hi, hz, hsi, hby⟩, hzs, hsz, hbp⟩ := sls_ok hT hI
        have h63 : cv ≤ 9223372036854775807 := by
          have : (1 : Int) * cv ≤ I.bytes * cv := Int.mul_le_mul_of_nonneg_right (by omega) (by omega)
          omega
        have hcm : cv.toNat ≤ maxLen := by simp only [maxLen]; omega
        have hrun := run_make (P := P) w t I.e i I.zero hu hi hz k1 k2 lv cv b1 b2 (by rw [hby]; omega) h63
        obtain ⟨m, hm⟩ : ∃ m, lv.toNat = m := ⟨_, rfl⟩
        obtain ⟨k, hk⟩ : ∃ k, cv.toNat = k := ⟨_, rfl⟩
        have hmk : m ≤ k := by omega
        rw [hm, hk, hsi] at hrun
        have hsz' : (madeCells I.zero.cells (k * I.size)).size = k * I.size := size_madeCells _ _
        have hcells : (madeCells I.zero.cells (k * I.size)).toList = (List.replicate k I.zero.cells.toList).flatten := by
          unfold madeCells
          rw [← hzs]
          exact zeros_mod (by omega) k
        have hzl : (zeroA I.zero).length = I.size := by unfold zeroA; rw [List.length_map, Array.length_toList]; exact hzs
        have hfl : (List.replicate m (zeroA I.zero)).flatten.length = m * I.size := by
          rw [flatten_len (sz := I.size) (fun it hit => by rw [List.eq_of_mem_replicate hit]; exact hzl), List.length_replicate]
        have hrow : ∀ (w : World) (W : Nat → Nat → Prop) (gb : Gb), RepL w W gb (List.replicate m (zeroA I.zero)).flatten ((madeCells I.zero.cells (k * I.size)).toList.take (List.replicate m (zeroA I.zero)).flatten.length) := by
          intro w W gb
          have e1 : (madeCells I.zero.cells (k * I.size)).toList.take (m * I.size) = (List.replicate m I.zero.cells.toList).flatten := by
            rw [hcells]
            have : List.replicate k I.zero.cells.toList = List.replicate m I.zero.cells.toList ++ List.replicate (k - m) I.zero.cells.toList := by
              rw [List.replicate_append_replicate]; congr 1; omega
            rw [this, List.flatten_append]
            exact List.take_left' (by rw [List.length_flatten]; simp [hzs])
          rw [hfl, e1]
          clear hfl e1 hm hmk hrun
          induction m with
          | zero => simpa using RepL.nil
          | succ m ih =>
            rw [List.replicate_succ, List.replicate_succ, List.flatten_cons, List.flatten_cons]
            exact (repL_lits hone).append ih
        refine ⟨.slice (some ⟨w.heap.size, 0, none⟩) m k, .cells (madeCells I.zero.cells (k * I.size)) I.e, (madeCells I.zero.cells (k * I.size)).size, ?_, fun w' W gb' id hb hg => ⟨?_, ?_⟩⟩
        · unfold execOp
          simp only [hop, rep_int (g.eval l) hl, rep_int (g.eval c) hc]
          rw [Sem.run_bind, hrun]
          rfl
        · rw [hm]
          exact ⟨by rw [szOf_sl hT hI]; exact fun it hit => by rw [List.eq_of_mem_replicate hit]; exact hzl, _, (0, 0), hb, cold0 _, rfl, by rw [hfl, hsz']; exact Nat.mul_le_mul_right _ hmk, hrow _ _ _⟩
        · have := Rep.rw (w := w') (W := W) (gb := gb') id I.size 0 m _ _ k hg (by rw [hsz']; simp) hmk (by rw [← hk]; exact hcm)
          rw [hm]
          rwa [Nat.zero_mul] at this
      · cases h
    · cases h
  · cases h
theorem Good.base (g : Good P N F w0 gb0 H0 s a w gb) : Good P N F w gb s.heap s a w gb :=
  ⟨Kept.refl _ _ _, Ext.refl _, g.ok, fun _ _ _ h => h, fun _ _ h => h, g.size, g.defers, g.slots⟩
theorem Good.rebase (g : Good P N F w0 gb0 H0 s a w gb) (g' : Good P N F w gb s.heap s' a' w' gb') : Good P N F w0 gb0 H0 s' a' w' gb' :=
  ⟨g.kept.trans g'.kept g.x0 g.wr0, g.ext.trans g'.ext, g'.ok, fun b o hb h => g.wr0 b o hb (g'.wr0 b o (Nat.lt_of_lt_of_le hb g.kept.size) h), fun b hb h => g.x0 b hb (g'.x0 b (Nat.lt_of_lt_of_le hb g.kept.size) h), g'.size, g'.defers, g'.slots⟩
theorem Good.reslot (g : Good P N F w0 gb0 H0 s a w gb) (hh : s'.heap = s.heap) (hn : s'.next = s.next) (hs : ∀ t, Rep w (Wr F gb s.heap) gb (s'.get t) (a.tmps.getD t undef)) : Good P N F w0 gb0 H0 s' a w gb :=
  ⟨g.kept, g.ext, by rw [hh, hn]; exact g.ok, by rw [hh]; exact g.wr0, by rw [hh]; exact g.x0, g.size, g.defers, by rw [hh]; exact hs⟩
/-- A block comes that nobody knows: it counts as written in by others. -/
theorem Good.early {d : Nat} {v : Value} (g : Good P N F w0 gb0 H0 s a w gb) (hd : d < N) (hb : Below w.heap.size w w') (hs : w.heap.size < w'.heap.size) (hF : ∀ b o, F' b o ↔ F b o ∨ b = w.heap.size) :
    Good P N F' w0 gb0 H0 (s.put (some d) (.lit v)) (a.put (some d) v) w' gb := by
  have hk : ∀ b o u, ¬ Wr F gb s.heap b o → w.cell? ⟨b, o, none⟩ = some u → w'.cell? ⟨b, o, none⟩ = some u ∧ ¬ Wr F' gb s.heap b o := fun b o u hn hc => ⟨(hb.cell (p := ⟨_, _, none⟩) (cell_lt hc)).trans hc, fun hw => by
    have hlt := cell_lt hc
    rcases hw with hw | hw
    · rcases (hF b o).1 hw with h | h
      · exact hn (.inl h)
      · omega
    · exact hn (.inr hw)⟩
  have g1 : Good P N F' w0 gb0 H0 s a w' gb := by
    refine ⟨g.kept.trans (.of_below (X := fun _ => False) (W := fun _ _ => False) hb) (fun _ _ hx => hx.elim) (fun _ _ _ hx => hx.elim), g.ext, ⟨fun id b t h => ?_, g.ok.new, fun id o ho => ?_, g.ok.one, fun b o h => ?_, fun b o h hx => ?_⟩, g.wr0, g.x0, g.size, g.defers, fun t => (g.slots t).keep hk (Ext.refl _)⟩
    · have := g.ok.lt id b t h; omega
    · rcases g.ok.live id o ho with ⟨b, t, hg, hr⟩ | h
      · exact .inl ⟨b, t, hg, hr.keep (hb.block b (g.ok.lt id b t hg).2) hk (Ext.refl _)⟩
      · exact .inr h
    · rcases (hF b o).1 h with h | h
      · exact Nat.lt_of_lt_of_le (g.ok.FB b o h) hb.size
      · omega
    · rcases (hF b o).1 h with h | h
      · exact g.ok.FX b o h hx
      · obtain ⟨id, t, hg, _⟩ := hx
        have := (g.ok.lt id b t hg).2
        omega
  exact g1.put (fun k hk => by injection hk with hk; omega) (.lit v)
/-- Its turn: the block gets a number. -/
theorem Good.name {oo : AO} {gg size : Nat} (g : Good P N F' w0 gb0 H0 s a w gb) (hF : ∀ b o, F' b o ↔ F b o ∨ b = gg) (hn : ∀ o, ¬ F gg o) (h0 : w0.heap.size ≤ gg)
    (hr : ObjRep P w (Wr F (gbn gb s.next (gg, size)) (upd s.heap s.next (some oo))) (gbn gb s.next (gg, size)) gg size oo) : Good P N F w0 gb0 H0 (s.fresh oo) a w (gbn gb s.next (gg, size)) := by
  have hlt : gg < w.heap.size := g.ok.FB gg 0 ((hF gg 0).2 (.inr rfl))
  have hX : ¬ Xh gb s.heap gg := g.ok.FX gg 0 ((hF gg 0).2 (.inr rfl))
  have hat : ∀ {id b t}, gbn gb s.next (gg, size) id = some (b, t) → (id = s.next ∧ b = gg ∧ t = size) ∨ (id ≠ s.next ∧ gb id = some (b, t)) := fun {id b t} hg => by
    unfold gbn at hg
    split at hg
    · injection hg with hg
      injection hg with e1 e2
      exact .inl ⟨by assumption, e1.symm, e2.symm⟩
    · exact .inr ⟨by assumption, hg⟩
  have hwh : ∀ b o, Wh (gbn gb s.next (gg, size)) (upd s.heap s.next (some oo)) b o → b = gg ∨ Wh gb s.heap b o := by
    rintro b o ⟨id, t, hg, hw⟩
    rcases hat hg with ⟨_, h, _⟩ | ⟨h1, h2⟩
    · exact .inl h
    · rw [upd_other (fun e => h1 e.symm)] at hw
      exact .inr ⟨id, t, h2, hw⟩
  have hxh : ∀ b, Xh (gbn gb s.next (gg, size)) (upd s.heap s.next (some oo)) b → b = gg ∨ Xh gb s.heap b := by
    rintro b ⟨id, t, hg, hw⟩
    rcases hat hg with ⟨_, h, _⟩ | ⟨h1, h2⟩
    · exact .inl h
    · rw [upd_other (fun e => h1 e.symm)] at hw
      exact .inr ⟨id, t, h2, hw⟩
  have hk : ∀ b o u, ¬ Wr F' gb s.heap b o → w.cell? ⟨b, o, none⟩ = some u → w.cell? ⟨b, o, none⟩ = some u ∧ ¬ Wr F (gbn gb s.next (gg, size)) (upd s.heap s.next (some oo)) b o := fun b o u h hc => ⟨hc, fun hw => by
    rcases hw with hw | hw
    · exact h (.inl ((hF b o).2 (.inl hw)))
    · rcases hwh b o hw with hw | hw
      · exact h (.inl ((hF b o).2 (.inr hw)))
      · exact h (.inr hw)⟩
  have hext := gbn_ext g.ok (gg, size)
  refine ⟨g.kept, g.ext.trans hext, ⟨fun id b t hg => ?_, fun id hid => ?_, fun id o ho => ?_, fun i j b t t' hi hj hxi hxj => ?_, fun b o hf => g.ok.FB b o ((hF b o).2 (.inl hf)), fun b o hf hx => ?_⟩, fun b o hb hw => ?_, fun b hb hx => ?_, g.size, g.defers, fun t => (g.slots t).keep hk hext⟩
  · show id < s.next + 1 ∧ _
    rcases hat hg with ⟨h1, h2, _⟩ | ⟨_, hg⟩
    · omega
    · have := g.ok.lt id b t hg; omega
  · have hid' : s.next + 1 ≤ id := hid
    show upd s.heap s.next (some oo) id = none
    rw [upd_other (by omega)]
    exact g.ok.new id (by omega)
  · have ho' : upd s.heap s.next (some oo) id = some o := ho
    by_cases hid : id = s.next
    · subst hid
      rw [upd_same] at ho'
      injection ho' with ho'
      subst ho'
      exact .inl ⟨gg, size, gbn_at gb s.next _, hr⟩
    · rw [upd_other (fun e => hid e.symm)] at ho'
      rcases g.ok.live id o ho' with ⟨b, t, hg, hrr⟩ | ⟨hg, he⟩
      · exact .inl ⟨b, t, hext _ _ hg, hrr.keep rfl hk hext⟩
      · exact .inr ⟨by unfold gbn; rw [if_neg hid]; exact hg, he⟩
  · have hxi' : exO (upd s.heap s.next (some oo) i) := hxi
    have hxj' : exO (upd s.heap s.next (some oo) j) := hxj
    rcases hat hi with ⟨h1, h2, _⟩ | ⟨h1, h2⟩ <;> rcases hat hj with ⟨h3, h4, _⟩ | ⟨h3, h4⟩
    · omega
    · rw [upd_other (fun e => h3 e.symm)] at hxj'
      exact absurd ⟨j, t', by rw [← h2]; exact h4, hxj'⟩ hX
    · rw [upd_other (fun e => h1 e.symm)] at hxi'
      exact absurd ⟨i, t, by rw [← h4]; exact h2, hxi'⟩ hX
    · rw [upd_other (fun e => h1 e.symm)] at hxi'
      rw [upd_other (fun e => h3 e.symm)] at hxj'
      exact g.ok.one i j b t t' h2 h4 hxi' hxj'
  · rcases hxh b hx with h | h
    · subst h; exact hn o hf
    · exact g.ok.FX b o ((hF b o).2 (.inl hf)) h
  · rcases hwh b o hw with h | h
    · omega
    · exact g.wr0 b o hb h
  · rcases hxh b hx with h | h
    · omega
    · exact g.x0 b hb h
/-- A step leaves the blocks alone that others write in. -/
theorem Good.stay (g : Good P N F w0 gb0 H0 s a w gb) (g' : Good P N F w gb s.heap s' a' w' gb') {b o : Nat} (hf : F b o) : w'.heap[b]? = w.heap[b]? :=
  g'.kept.block b (g.ok.FB b o hf) (g.ok.FX b o hf)
end
end Go.Proofs.Ytheanmfdfoefoaa.Hv
