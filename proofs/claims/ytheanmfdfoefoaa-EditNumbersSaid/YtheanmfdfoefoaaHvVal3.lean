/- Abstract values: all operations that only read. Plain: over any program. -/
import Derived.Test.YtheanmfdfoefoaaHvVal2
import Derived.MapKept
import Derived.Great.BuildSlice
set_option linter.unusedVariables false
set_option linter.unusedSimpArgs false
namespace Go.Proofs.Ytheanmfdfoefoaa.Hv
open Go Go.RowKit

section
variable {P : Program} {T : Tbl} {N : Nat} {F : Nat → Nat → Prop} {w0 w w' : World} {gb0 gb gb' : Gb} {H0 H H' : Hp} {s : AS} {a : Act} {n n' : Nat} {W : Nat → Nat → Prop} {o : Oper}
theorem v_index {t : TypeId} {x i : Operand} {u : ByteArray} {k : IntKind} {m : Int} {v : AV} (ho : o.op = .index t x i) (hT : T.Ok P) (hx : s.eval x = .lit (.string u)) (hi : (s.eval i).int? = some (k, m)) (ht : T.strs.elem t = true) (h : aindexS u m = some v) (g : Good P N F w0 gb0 H0 s a w gb) :
    ∃ y, (execOp a.eval o).run P w = .ok (.value y) w ∧ Rep w (Wr F gb s.heap) gb v y := by
  have h1 := rep_int (g.eval i) hi
  have h2 : a.eval x = .string u := by have := g.eval x; rw [hx] at this; exact rep_lit this
  unfold aindexS at h
  split at h
  · rename_i h0
    split at h
    · rename_i b hb
      simp only [Option.some.injEq] at h; subst h
      refine ⟨.int .u8 b.toNat, ?_, .lit _⟩
      have hb' : u[m.toNat]? = some b := by
        have hlt := (List.getElem?_eq_some_iff.1 hb).1
        have hlt' : m.toNat < u.size := by simpa using hlt
        rw [getElem?_pos u m.toNat hlt']
        have := (List.getElem?_eq_some_iff.1 hb).2
        simp only [Array.getElem_toList] at this
        rw [← this]; rfl
      unfold execOp
      simp only [ho, h1, h2]
      rw [Sem.run_bind]
      simp [Instr.index, asIntOf, run_underlying (hT.strs t (List.elem_iff.1 ht)), h0, hb']
    · cases h
  · cases h
theorem v_indexA {t : TypeId} {x i : Operand} {cs : List AV} {k : IntKind} {m : Int} {v : AV} {len e sz : Nat} (ho : o.op = .index t x i) (hT : T.Ok P) (hx : s.eval x = .agg cs) (hi : (s.eval i).int? = some (k, m)) (ha : lk? T.arrs t = some (len, e, sz)) (h : aindexA T cs len e sz m = some v) (g : Good P N F w0 gb0 H0 s a w gb) :
    ∃ y, (execOp a.eval o).run P w = .ok (.value y) w ∧ Rep w (Wr F gb s.heap) gb v y := by
  have h1 := rep_int (g.eval i) hi
  have he := g.eval x
  rw [hx] at he
  obtain ⟨hu, hsz⟩ := hT.arrs _ (lk?_mem ha)
  obtain ⟨inf, hinf, hsz⟩ := Option.map_eq_some_iff.1 hsz
  simp only at hu hinf hsz
  generalize hv : a.eval x = y at he
  cases he with
  | agg _ vs hl h1' hr =>
    unfold aindexA at h
    split at h
    · rename_i hb
      obtain ⟨h0, hlt, hlen⟩ := hb
      have hmt : m.toNat < len := by omega
      have hmul : m.toNat * sz + sz ≤ len * sz := by rw [← Nat.succ_mul]; exact Nat.mul_le_mul_right _ hmt
      have hsize : ∀ w : World, (Go.sizeOf e).run P w = .ok sz w := fun w => by simp [Go.sizeOf, typeInfo, hinf, hsz]
      have run : ∀ y, (part e vs.toArray (m.toNat * sz)).run P w = .ok y w → (execOp a.eval o).run P w = .ok (.value y) w := fun y hy => by
        unfold execOp
        simp only [ho, h1, hv]
        rw [Sem.run_bind]
        simp [Instr.index, asIntOf, run_underlying hu, h0, hlt, hsize, hy]
      split at h
      · rename_i hz
        obtain ⟨z1, z2⟩ := hT.szs _ (lk?_mem hz)
        simp only at z1 z2
        have hs1 : sz = 1 := by rw [hinf] at z2; simp only [Option.map_some, Option.some.injEq] at z2; omega
        subst hs1
        have hlt' : m.toNat * 1 < vs.length := by omega
        refine ⟨vs[m.toNat * 1], run _ ?_, hr _ _ _ h (List.getElem?_eq_getElem hlt')⟩
        unfold part
        have hg : vs.toArray[m.toNat * 1]? = some vs[m.toNat * 1] := by rw [List.getElem?_toArray]; exact List.getElem?_eq_getElem hlt'
        simp only [Sem.run_bind, run_isAgg_some z1, Result.andThen_ok, Bool.false_eq_true, if_false, hg, Sem.run_pure]
      · rename_i mm hz
        split at h
        · rename_i hmm
          subst hmm
          obtain ⟨z1, z2⟩ := hT.szs _ (lk?_mem hz)
          simp only at z1 z2
          simp only [Option.some.injEq] at h
          subst h
          refine ⟨.agg ((vs.drop (m.toNat * mm)).take mm).toArray, run _ ?_, Rep.agg _ _ (by simp [hl]) (fun u hu => h1' u (List.mem_of_mem_drop (List.mem_of_mem_take hu))) fun j c u hc hu => ?_⟩
          · unfold part
            simp only [Sem.run_bind, run_isAgg_some z1, Result.andThen_ok, if_true, hsize, Sem.run_pure]
            congr 2
            apply Array.toList_inj.1
            rw [Array.toList_extract, List.extract_eq_take_drop]
            simp [Nat.add_sub_cancel_left]
          · rw [List.getElem?_take] at hc hu
            split at hc
            · rename_i hj
              rw [if_pos hj] at hu
              rw [List.getElem?_drop] at hc hu
              exact hr _ c u hc hu
            · cases hc
        · cases h
      · cases h
    · cases h
theorem v_ext {x : Operand} {i : Nat} {cs : List AV} {c : AV} (ho : o.op = .extract x i) (hx : s.eval x = .tup cs) (hc : cs[i]? = some c) (g : Good P N F w0 gb0 H0 s a w gb) : ∃ u, (execOp a.eval o).run P w = .ok (.value u) w ∧ Rep w (Wr F gb s.heap) gb c u := by
  have he := g.eval x
  rw [hx] at he
  generalize hv : a.eval x = v at he
  cases he with
  | tup _ vs hl hr =>
    have hlt := (List.getElem?_eq_some_iff.1 hc).1
    have hu : vs[i]? = some vs[i] := List.getElem?_eq_getElem (by omega)
    refine ⟨vs[i], ?_, hr i c _ hc hu⟩
    unfold execOp
    simp only [ho, hv]
    rw [Sem.run_bind]
    simp [Instr.extract, hu]
theorem run_bounds {isS : Bool} {len cap : Nat} {lo hi : Option Operand} {l h : Int} (g : Good P N F w0 gb0 H0 s a w gb) (hl : onum 0 (lo.map s.eval) = some l) (hh : onum len (hi.map s.eval) = some h) (b1 : 0 ≤ l) (b2 : l ≤ h) (b3 : h ≤ len) (b4 : len ≤ cap) :
    (Instr.sliceBounds isS len cap (lo.map a.eval) (hi.map a.eval) none).run P w = .ok (l.toNat, h.toNat, cap) w := by
  have hH : ∀ (k : IntKind) (cd : BoundsCode), (Instr.sliceBound (.int k h) cap cd).run P w = .ok h.toNat w := fun k cd => by
    have h1 : 0 ≤ h ∧ h ≤ (cap : Int) := by omega
    simp [Instr.sliceBound, asIntOf, h1]
  have hL : ∀ (k : IntKind) (cd : BoundsCode), (Instr.sliceBound (.int k l) h.toNat cd).run P w = .ok l.toNat w := fun k cd => by
    have h1 : 0 ≤ l ∧ l ≤ (h.toNat : Int) := by omega
    simp only [Instr.sliceBound, asIntOf, Sem.run_bind, Sem.run_pure, Result.andThen_ok, if_pos h1]
  cases lo with
  | none =>
    simp only [Option.map_none, onum, Option.some.injEq] at hl
    subst hl
    cases hi with
    | none =>
      simp only [Option.map_none, onum, Option.some.injEq] at hh
      subst hh
      simp [Instr.sliceBounds]
    | some y =>
      simp only [Option.map_some, onum] at hh
      obtain ⟨k, hv⟩ := rep_num (g.eval y) hh
      simp [Instr.sliceBounds, hv, hH]
  | some x =>
    simp only [Option.map_some, onum] at hl
    obtain ⟨k', hv'⟩ := rep_num (g.eval x) hl
    cases hi with
    | none =>
      simp only [Option.map_none, onum, Option.some.injEq] at hh
      subst hh
      simp only [Int.toNat_natCast] at hL
      simp [Instr.sliceBounds, hv', hL]
    | some y =>
      simp only [Option.map_some, onum] at hh
      obtain ⟨k, hv⟩ := rep_num (g.eval y) hh
      simp [Instr.sliceBounds, hv, hv', hH, hL]
theorem rep_cut {items : List (List AV)} {v : Value} {sz l h : Nat} (hr : Rep w W gb (.sl items) v) (hlh : l ≤ h) (hh : h ≤ items.length) (hi : ∀ it ∈ items, it.length = sz) :
    ∃ A c, v = .slice A items.length c ∧ items.length ≤ c ∧ c ≤ maxLen ∧ Rep w W gb (.sl ((items.take h).drop l)) (.slice (if c = l then A else A.map (·.add (l * sz))) (h - l) (c - l)) := by
  cases hr with
  | sl _ sz' A c b off val hi' hc hm ha hcell hF h1 hr =>
    refine ⟨A, c, rfl, hc, hm, ?_⟩
    have hlen : ((items.take h).drop l).length = h - l := by simp; omega
    have hcut : ∀ (j : Nat) (x : AV), ((items.take h).drop l).flatten[j]? = some x → items.flatten[l * sz + j]? = some x := fun j x hx => flatten_take (flatten_drop (fun it hit => hi it (List.mem_of_mem_take hit)) hx)
    rw [← hlen]
    by_cases hne : items = []
    · have hz : (items.take h).drop l = [] := by simp [hne]
      rw [hz]
      exact rep_sl_nil rfl (by omega)
    · have hA := ha hne
      subst hA
      refine Rep.sl _ sz _ (c - l) b (off + l * sz) (fun j => val (l * sz + j)) (fun it hit => hi it (List.mem_of_mem_take (List.mem_of_mem_drop hit))) (by rw [hlen]; omega) (by omega) (fun hne' => ?_) (fun j x hx => ?_) (fun j x hx => ?_) (fun j x hx => h1 _ x (hcut j x hx)) (fun j x hx => hr _ x (hcut j x hx))
      · have : c ≠ l := by
          intro e
          apply hne'
          apply List.eq_nil_of_length_eq_zero
          omega
        rw [if_neg this]
        simp [Addr.add_lit]
      · rw [Nat.add_assoc]; exact hcell _ x (hcut j x hx)
      · rw [Nat.add_assoc]; exact hF _ x (hcut j x hx)
theorem v_slice {t : TypeId} {x : Operand} {lo hi : Option Operand} {r : AV} (ho : o.op = .slice t x lo hi none) (hT : T.Ok P) (hr : acut T t (s.eval x) (lo.map s.eval) (hi.map s.eval) = some r) (g : Good P N F w0 gb0 H0 s a w gb) : ∃ u, (execOp a.eval o).run P w = .ok (.value u) w ∧ Rep w (Wr F gb s.heap) gb r u := by
  have he := g.eval x
  have hsl : ∀ (I : SlI) (items : List (List AV)) (l h : Int), Rep w (Wr F gb s.heap) gb (.sl items) (a.eval x) → lk? T.sls t = some I → onum 0 (lo.map s.eval) = some l → onum items.length (hi.map s.eval) = some h → acutL I items l h = some r → ∃ u, (execOp a.eval o).run P w = .ok (.value u) w ∧ Rep w (Wr F gb s.heap) gb r u := by
    intro I items l m hrp hI hl hm hr
    unfold acutL at hr
    split at hr
    · rename_i hb
      obtain ⟨⟨b1, b2, b3⟩, hsz⟩ := hb
      simp only [Option.some.injEq] at hr
      subst hr
      obtain ⟨A, c, hv, hc1, hc2, hrep⟩ := rep_cut (l := l.toNat) (h := m.toNat) hrp (by omega) (by omega) hsz
      obtain ⟨hu, ⟨inf, hinf, hz, hsi, hby⟩, _, _, _⟩ := sls_ok hT hI
      refine ⟨.slice (if c = l.toNat then A else A.map (·.add (l.toNat * I.size))) (m.toNat - l.toNat) (c - l.toNat), ?_, hrep⟩
      unfold execOp
      simp only [ho, hv, Instr.sliceAt, Sem.run_bind, run_underlying hu, Result.andThen_ok, Instr.slice, Option.map_none, Option.isSome_none, Bool.false_eq_true, if_false, Sem.run_pure]
      rw [run_bounds g hl hm b1 b2 b3 hc1]
      simp [sizeOf, typeInfo, hinf, hsi]
    · cases hr
  unfold acut at hr
  split at hr
  · rename_i u hu
    rw [hu] at he
    have hv := rep_lit he
    cases hst : T.strs.elem t with
    | false => rw [hst] at hr; cases hr
    | true =>
      rw [hst] at hr
      simp only [cond_true, Option.bind_eq_some_iff] at hr
      obtain ⟨l, hl, m, hm, hr⟩ := hr
      unfold acutS at hr
      split at hr
      · rename_i hb
        obtain ⟨b1, b2, b3⟩ := hb
        simp only [Option.some.injEq] at hr
        subst hr
        refine ⟨.string (u.extract l.toNat m.toNat), ?_, Rep.lit _⟩
        unfold execOp
        simp only [ho, hv, Instr.sliceAt, Sem.run_bind, run_underlying (hT.strs t (List.elem_iff.1 hst)), Result.andThen_ok, Instr.slice, Option.map_none, Option.isSome_none, Bool.false_eq_true, if_false, Sem.run_pure]
        rw [run_bounds g hl hm b1 b2 b3 (Nat.le_refl _)]
        rfl
      · cases hr
  · rename_i u _ hu
    rw [hu] at he
    have hv := rep_lit he
    cases hn : isNilV u with
    | false => rw [hn] at hr; cases hr
    | true =>
      rw [hn] at hr
      simp only [cond_true, Option.bind_eq_some_iff] at hr
      obtain ⟨I, hI, l, hl, m, hm, hr⟩ := hr
      refine hsl I [] l m ?_ hI hl hm hr
      rw [hv]
      unfold isNilV at hn
      split at hn
      · exact rep_sl_nil rfl (by simp)
      · cases hn
  · rename_i items hu
    rw [hu] at he
    simp only [Option.bind_eq_some_iff] at hr
    obtain ⟨I, hI, l, hl, m, hm, hr⟩ := hr
    exact hsl I items l m he hI hl hm hr
  · rename_i id sz ko len hu
    rw [hu] at he
    simp only [Option.bind_eq_some_iff] at hr
    obtain ⟨I, hI, l, hl, m, hm, hr⟩ := hr
    unfold acutR at hr
    split at hr
    · rename_i hb
      obtain ⟨⟨b1, b2, b3⟩, hsz⟩ := hb
      simp only [Option.some.injEq] at hr
      subst hr
      obtain ⟨hu', ⟨inf, hinf, hz, hsi, hby⟩, _, hsp, _⟩ := sls_ok hT hI
      generalize hv : a.eval x = v at he
      have hrun : ∀ (A : Option Addr) (c : Nat), v = .slice A len c → len ≤ c → (execOp a.eval o).run P w = .ok (.value (.slice (if c = l.toNat then A else A.map (·.add (l.toNat * I.size))) (m.toNat - l.toNat) (c - l.toNat))) w := by
        intro A c hvv hc1
        unfold execOp
        simp only [ho, hv, hvv, Instr.sliceAt, Sem.run_bind, run_underlying hu', Result.andThen_ok, Instr.slice, Option.map_none, Option.isSome_none, Bool.false_eq_true, if_false, Sem.run_pure]
        rw [run_bounds g hl hm b1 b2 b3 hc1]
        simp [sizeOf, typeInfo, hinf, hsi]
      have hml : (m - l).toNat = m.toNat - l.toNat := by omega
      rw [hml]
      cases he with
      | rw _ _ _ _ gg size c hg hs hc hm' =>
        refine ⟨_, hrun _ c rfl hc, ?_⟩
        by_cases hcl : c = l.toNat
        · subst hcl
          have h1 : l.toNat = len := by omega
          have h0 : m.toNat - l.toNat = 0 := by omega
          rw [if_pos rfl, h0, Nat.sub_self]
          exact Rep.rwz id sz _ _ gg size hg
        · rw [if_neg hcl]
          have e1 : (some (⟨gg, ko * sz, none⟩ : Addr)).map (·.add (l.toNat * I.size)) = some ⟨gg, (ko + l.toNat) * sz, none⟩ := by
            simp [Addr.add_lit, ← hsz, Nat.add_mul]
          rw [e1]
          refine Rep.rw id sz (ko + l.toNat) _ gg size (c - l.toNat) hg ?_ (by omega) (by omega)
          rw [← Nat.add_mul, show ko + l.toNat + (c - l.toNat) = ko + c from by omega, Nat.add_mul]
          exact hs
      | rwz _ _ _ off gg size hg =>
        refine ⟨_, hrun _ 0 rfl (Nat.le_refl _), ?_⟩
        have h0 : l = 0 := by omega
        have h1 : m = 0 := by omega
        subst h0 h1
        simp only [Int.toNat_zero, if_pos, Nat.sub_self, Nat.add_zero]
        exact Rep.rwz id sz _ _ gg size hg
      | rwn =>
        refine ⟨_, hrun none 0 rfl (Nat.le_refl _), ?_⟩
        have h0 : l = 0 := by omega
        have h1 : m = 0 := by omega
        subst h0 h1
        simp only [Int.toNat_zero, if_pos, Nat.sub_self, Nat.add_zero]
        exact Rep.rwn id sz
    · cases hr
  · cases hr
theorem pure_of_one {x : AV} (h : x.cells.all AV.isOne = true) : x.cells.all AV.isOne = true := h
theorem rep_one {x : AV} {v : Value} (h : Rep w W gb x v) (h1 : x.isOne = true) : v.oneCell' = true := by
  cases h <;> first | exact h1 | rfl | cases h1
theorem repL_one {x : AV} {v : Value} (h : Rep w W gb x v) (h1 : x.isOne = true) : RepL w W gb [x] [v] := by
  refine ⟨rfl, fun u hu => ?_, fun j c u hc hu => ?_⟩
  · simp only [List.mem_singleton] at hu; subst hu; exact rep_one h h1
  · match j with
    | 0 => simp only [List.getElem?_cons_zero, Option.some.injEq] at hc hu; subst hc hu; exact h
    | j + 1 => simp at hc
theorem cells_self {v : Value} (h : v.oneCell' = true) : v.cells = #[v] := by
  cases v <;> first | rfl | cases h
theorem rep_cells {x : AV} {v : Value} (h : Rep w W gb x v) (hc : x.cells.all AV.isOne = true) : RepL w W gb x.cells v.cells.toList := by
  have one : x.isOne = true → RepL w W gb [x] v.cells.toList := fun h1 => by
    rw [cells_self (rep_one h h1)]
    exact repL_one h h1
  cases x with
  | agg cs =>
    cases h with
    | agg _ vs hl h1 hr => exact ⟨hl, h1, hr⟩
  | lit u =>
    have hu := rep_lit h
    subst hu
    cases v with
    | agg us =>
      refine ⟨by simp [AV.cells, Value.cells], fun u hu => ?_, fun j c u hj hu => ?_⟩
      · have hu' : u ∈ us.toList := hu
        have := List.all_eq_true.1 hc (.lit u) (List.mem_map.2 ⟨u, hu', rfl⟩)
        exact this
      · have hj' : (us.toList.map AV.lit)[j]? = some c := hj
        have hu' : us.toList[j]? = some u := hu
        rw [List.getElem?_map, hu'] at hj'
        simp only [Option.map_some, Option.some.injEq] at hj'
        subst hj'
        exact .lit u
    | _ => exact one (by simpa [AV.cells] using hc)
  | _ => exact one (by simpa [AV.cells] using hc)
theorem repL_lits {us : List Value} (h1 : (us.map AV.lit).all AV.isOne = true) : RepL w W gb (us.map .lit) us := by
  refine ⟨by simp, fun u hu => List.all_eq_true.1 h1 (.lit u) (List.mem_map.2 ⟨u, hu, rfl⟩), fun j c u hj hu => ?_⟩
  rw [List.getElem?_map, hu] at hj
  simp only [Option.map_some, Option.some.injEq] at hj
  subst hj
  exact .lit u
theorem fold_set {cells : Array Value} {xs : List Value} {off k : Nat} (h : off + k + xs.length ≤ cells.size) :
    ((xs.zipIdx k).foldl (fun cs (p : Value × Nat) => cs.setIfInBounds (off + p.2) p.1) cells).toList = cells.toList.take (off + k) ++ xs ++ cells.toList.drop (off + k + xs.length) := by
  induction xs generalizing cells k with
  | nil => simp
  | cons x xs ih =>
    simp only [List.zipIdx_cons, List.foldl_cons, List.length_cons] at h ⊢
    rw [ih (by simp; omega)]
    have hlt : off + k < cells.toList.length := by simp; omega
    have e1 : (cells.setIfInBounds (off + k) x).toList = cells.toList.take (off + k) ++ x :: cells.toList.drop (off + k + 1) := by
      rw [Array.toList_setIfInBounds, List.set_eq_take_append_cons_drop, if_pos hlt]
    rw [e1]
    have hl : (cells.toList.take (off + k)).length = off + k := by rw [List.length_take]; omega
    rw [List.take_append, List.drop_append, hl]
    have e2 : off + (k + 1) - (off + k) = 1 := by omega
    have e3 : off + (k + 1) + xs.length - (off + k) = xs.length + 1 := by omega
    rw [e2, e3]
    have e4 : (cells.toList.take (off + k)).take (off + (k + 1)) = cells.toList.take (off + k) := List.take_of_length_le (by rw [hl]; omega)
    have e5 : (cells.toList.take (off + k)).drop (off + (k + 1) + xs.length) = [] := List.drop_eq_nil_of_le (by rw [hl]; omega)
    rw [e4, e5]
    simp only [List.take_succ_cons, List.take_zero, List.drop_succ_cons, List.nil_append, List.drop_drop, List.append_assoc, List.cons_append]
    congr 4
    omega
theorem fill_step {place : Nat → Option (Nat × Nat)} {cells : Array Value} {i off size : Nat} {v : Value} {rest : List (Nat × Value)} (hp : place i = some (off, size)) (h1 : v.cells.size = size) (h2 : off + size ≤ cells.size) :
    ∃ cells' : Array Value, cells'.toList = cells.toList.take off ++ v.cells.toList ++ cells.toList.drop (off + size) ∧ Instr.fill place cells ((i, v) :: rest) = Instr.fill place cells' rest := by
  refine ⟨v.cells.zipIdx.foldl (fun cs (p : Value × Nat) => cs.setIfInBounds (off + p.2) p.1) cells, ?_, ?_⟩
  · have := fold_set (cells := cells) (xs := v.cells.toList) (off := off) (k := 0) (by simp; omega)
    rw [← Array.foldl_toList, Array.toList_zipIdx]
    rw [this]
    simp [h1]
  · show (match place i with | none => none | some (off, size) => _) = _
    rw [hp]
    simp only
    rw [if_neg (by simp [h1]; omega)]
theorem fill_sound {pl : List (Nat × Nat)} (g : Good P N F w0 gb0 H0 s a w gb) {place : Nat → Option (Nat × Nat)} (hpl : ∀ i p, pl[i]? = some p → place i = some p) : ∀ (parts : List (Nat × Operand)) {cs ds : List AV} {us : Array Value}, RepL w (Wr F gb s.heap) gb cs us.toList → abuild pl s.eval parts cs = some ds →
    ∃ vs : Array Value, Instr.fill place us (parts.map fun p => (p.1, a.eval p.2)) = some vs ∧ RepL w (Wr F gb s.heap) gb ds vs.toList := by
  intro parts
  induction parts with
  | nil =>
    intro cs ds us h hb
    simp only [abuild, Option.some.injEq] at hb
    subst hb
    exact ⟨us, rfl, h⟩
  | cons p parts ih =>
    obtain ⟨i, x⟩ := p
    intro cs ds us h hb
    simp only [abuild] at hb
    split at hb
    · rename_i off size hp
      split at hb
      · rename_i hc
        obtain ⟨⟨h1, h2⟩, h3⟩ := hc
        have hx := rep_cells (g.eval x) h3
        have hl := hx.len
        have hsz : (a.eval x).cells.size = size := by rw [← Array.length_toList, ← hl]; exact h1
        have hus : us.size = cs.length := by rw [← Array.length_toList]; exact h.len.symm
        obtain ⟨us', e1, e2⟩ := fill_step (rest := parts.map fun p => (p.1, a.eval p.2)) (hpl i _ hp) hsz (cells := us) (by rw [hus]; exact h2)
        obtain ⟨vs, hv1, hv2⟩ := ih (us := us') (cs := setR cs off (s.eval x).cells) (by
          rw [e1]
          have := h.setR hx off
          rw [Array.length_toList, hsz] at this
          exact this) hb
        refine ⟨vs, ?_, hv2⟩
        rw [List.map_cons, e2]
        exact hv1
      · cases hb
    · cases hb
theorem run_zero_some {t : Nat} {z : Value} (h : (P.info? t).map (·.zero) = some (some z)) (w : World) : (zeroValue t).run P w = .ok z w := by
  rw [Option.map_eq_some_iff] at h
  obtain ⟨i, hi, hz⟩ := h
  simp [zeroValue, typeInfo, hi, hz]
theorem v_build {t : TypeId} {parts : Array (Nat × Operand)} {z : Value} {pl : List (Nat × Nat)} {cs : List AV} (ho : o.op = .build t parts) (hT : T.Ok P) (hz : lk? T.zeros t = some z) (h1 : (z.cells.toList.map AV.lit).all AV.isOne = true) (hpl : lk? T.fszs t = some pl) (hb : abuild pl s.eval parts.toList (z.cells.toList.map .lit) = some cs)
    (g : Good P N F w0 gb0 H0 s a w gb) : ∃ u, (execOp a.eval o).run P w = .ok (.value u) w ∧ Rep w (Wr F gb s.heap) gb (.agg cs) u := by
  have hzz : (P.info? _).map (·.zero) = some (some z) := hT.zeros _ (lk?_mem hz)
  have hpp : placesOf P t = some pl := hT.fszs _ (lk?_mem hpl)
  have hbuilt : ∃ vs, P.built t (parts.map fun (i, x) => (i, a.eval x)).toList = some vs ∧ RepL w (Wr F gb s.heap) gb cs vs.toList := by
    rw [Option.map_eq_some_iff] at hzz
    obtain ⟨it, hit, hitz⟩ := hzz
    unfold placesOf at hpp
    split at hpp
    · rename_i fs hfs
      obtain ⟨vs, hv1, hv2⟩ := fill_sound (place := fun i => pl.toArray[i]?) g (fun i p h => by simpa using h) parts.toList (repL_lits (w := w) (W := Wr F gb s.heap) (gb := gb) h1) hb
      refine ⟨vs, ?_, hv2⟩
      unfold Program.built
      simp only [hit, hfs, hitz, hpp]
      rw [Array.toList_map]
      exact hv1
    · rename_i len e hfs
      obtain ⟨ie, hie, hpl'⟩ := Option.map_eq_some_iff.1 hpp
      obtain ⟨vs, hv1, hv2⟩ := fill_sound (place := fun i => some (i * ie.size, ie.size)) g (fun i p h => by
        rw [← hpl', List.getElem?_map, Option.map_eq_some_iff] at h
        obtain ⟨j, hj, rfl⟩ := h
        obtain ⟨_, e⟩ := List.getElem?_eq_some_iff.1 hj
        rw [List.getElem_range] at e
        rw [e]) parts.toList (repL_lits (w := w) (W := Wr F gb s.heap) (gb := gb) h1) hb
      refine ⟨vs, ?_, hv2⟩
      unfold Program.built
      simp only [hit, hfs, hitz, hie]
      rw [Array.toList_map]
      exact hv1
    · cases hpp
  obtain ⟨vs, hbuilt, hv2⟩ := hbuilt
  refine ⟨.agg vs, ?_, Rep.agg cs vs.toList hv2.len hv2.one hv2.rep⟩
  unfold execOp
  simp only [ho]
  rw [Sem.run_bind, run_build w t _ vs hbuilt]
  rfl
theorem v_conv {t t' : TypeId} {x : Operand} {k k0 : IntKind} {k' : IntKind} {m : Int} (ho : o.op = .convert t t' x) (hT : T.Ok P) (hk0 : lk? T.ints t = some k0) (hk : lk? T.ints t' = some k) (hx : (s.eval x).int? = some (k', m)) (g : Good P N F w0 gb0 H0 s a w gb) : ∃ u, (execOp a.eval o).run P w = .ok (.value u) w ∧ Rep w (Wr F gb s.heap) gb (.lit (.int k (k.wrap m))) u := by
  have h1 := rep_int (g.eval x) hx
  have h2 := hT.ints _ (lk?_mem hk)
  have hd' := hT.ints _ (lk?_mem hk0)
  refine ⟨.int k (k.wrap m), ?_, .lit _⟩
  unfold execOp
  simp only [ho, h1]
  simp [convert, run_underlying hd', run_underlying h2, Conv.intToInt]
/-- Bytes' cells. -/
theorem bytesOf_spec : ∀ {items : List (List AV)} {l : List Int}, bytesOf items = some l → items.length = l.length ∧ ∀ (j : Nat) (x : AV), items.flatten[j]? = some x → ∃ m : Int, x = .lit (.int .u8 m) ∧ l[j]? = some m := by
  intro items
  induction items with
  | nil => intro l h; simp only [bytesOf, Option.some.injEq] at h; subst h; exact ⟨rfl, fun j x hx => by simp at hx⟩
  | cons it items ih =>
    intro l h
    unfold bytesOf at h
    split at h
    · rename_i heq; cases heq
    · rename_i m r heq
      injection heq with e1 e2
      subst e1 e2
      split at h
      · rename_i l' hl
        simp only [Option.some.injEq] at h
        subst h
        obtain ⟨i1, i2⟩ := ih hl
        refine ⟨by simp [i1], fun j x hx => ?_⟩
        cases j with
        | zero =>
          simp only [List.flatten_cons, List.cons_append, List.nil_append, List.getElem?_cons_zero, Option.some.injEq] at hx
          subst hx
          exact ⟨m, rfl, rfl⟩
        | succ j =>
          simp only [List.flatten_cons, List.cons_append, List.nil_append, List.getElem?_cons_succ] at hx ⊢
          exact i2 j x hx
      · cases h
    · cases h
theorem bytesOf_flat {items : List (List AV)} {l : List Int} (h : bytesOf items = some l) : items.flatten.length = l.length := by
  induction items generalizing l with
  | nil => simp only [bytesOf, Option.some.injEq] at h; subst h; rfl
  | cons it items ih =>
    unfold bytesOf at h
    split at h
    · rename_i heq; cases heq
    · rename_i m r heq
      injection heq with e1 e2
      subst e1 e2
      split at h
      · rename_i l' hl
        simp only [Option.some.injEq] at h
        subst h
        simp [ih hl]
      · cases h
    · cases h
theorem v_bytes {t t' : TypeId} {x : Operand} {items : List (List AV)} {l : List Int} (ho : o.op = .convert t t' x) (hT : T.Ok P) (ht : T.byts.elem t = true) (ht' : T.strs.elem t' = true) (hx : (s.eval x).its? s.heap = some items) (hl : bytesOf items = some l) (g : Good P N F w0 gb0 H0 s a w gb) : ∃ u, (execOp a.eval o).run P w = .ok (.value u) w ∧ Rep w (Wr F gb s.heap) gb (.lit (.string (strOfNums l))) u := by
  obtain ⟨e, h1, h2, _⟩ := hT.byts t (List.elem_iff.1 ht)
  have h3 := hT.strs t' (List.elem_iff.1 ht')
  obtain ⟨sz, A, c, b, off, val, hi, hv, hc, hm, ha, hcell⟩ := rep_its g.ok (g.eval x) hx
  obtain ⟨hll, hsp⟩ := bytesOf_spec hl
  have hfl := bytesOf_flat hl
  refine ⟨_, ?_, .lit _⟩
  unfold execOp
  simp only [ho, hv]
  rw [Sem.run_bind]
  by_cases hne : items = []
  · subst hne
    have : l = [] := List.eq_nil_of_length_eq_zero hll.symm
    subst this
    cases A with
    | none => rw [run_convert_bytes_nil w t e h1 h2 _ _ t' h3]; rfl
    | some A =>
      have hl0 : (loadCells A 0).run P w = .ok #[] w := run_loadCells_list (P := P) (w := w) A [] (fun j u hu => by simp at hu)
      rw [run_convert_bytes_string w t t' e _ _ _ h1 h2 h3, List.length_nil, run_bytesToString w A 0 c [] hl0]; rfl
  · rw [ha hne, run_convert_bytes_arg w t e h1 h2 b off items.length c l hll.symm (fun i hi => ?_) t' h3]
    · rfl
    · obtain ⟨x, hx⟩ : ∃ x, items.flatten[i]? = some x := ⟨_, List.getElem?_eq_getElem (by omega)⟩
      obtain ⟨m, rfl, hm⟩ := hsp i x hx
      have := (hcell i _ hx)
      rw [this.1, rep_lit this.2.2, List.getD_eq_getElem?_getD, hm]; rfl
theorem v_nil {x : Operand} (ho : o.op = .nilCheck x) (hx : nonNil (s.eval x) = true) (g : Good P N F w0 gb0 H0 s a w gb) : ∃ u, (execOp a.eval o).run P w = .ok (.value u) w ∧ Rep w (Wr F gb s.heap) gb (s.eval x) u := by
  have hr := g.eval x
  refine ⟨a.eval x, ?_, hr⟩
  unfold execOp
  simp only [ho]
  generalize a.eval x = v at hr
  generalize s.eval x = y at hr hx
  cases hr <;> first | rfl | cases hx
theorem v_fn {f : FuncId} {caps : Array Operand} (ho : o.op = .makeFunc (.func f) #[] caps) (g : Good P N F w0 gb0 H0 s a w gb) : ∃ u, (execOp a.eval o).run P w = .ok (.value u) w ∧ Rep w (Wr F gb s.heap) gb (.fn f (litArgs s.eval caps)) u := by
  refine ⟨.func (.func f) #[] (caps.toList.map a.eval).toArray, ?_, Rep.fn f _ _ (by simp [litArgs]) fun j c u hc hu => ?_⟩
  · unfold execOp
    simp only [ho, Instr.makeFunc, Sem.run_bind, Sem.run_pure, Result.andThen_ok]
    congr 3
    all_goals (apply Array.toList_inj.1; simp)
  · unfold litArgs at hc
    rw [List.getElem?_map, Option.map_eq_some_iff] at hc hu
    obtain ⟨x, hx, rfl⟩ := hc
    obtain ⟨y, hy, rfl⟩ := hu
    rw [hx] at hy
    injection hy with hy
    subst hy
    exact g.eval x

/-! ### maps -/
theorem keyCell_val {k x : AV} {u v : Value} {b : Bool} (h : keyCell k x = some b) (hk : Rep w W gb k u) (hx : Rep w W gb x v) : b = veq u v ∧ (b = true → v = u) ∧ ∀ c, ckIs c u = true → ckIs c v = true := by
  unfold keyCell at h
  split at h
  · have hu := rep_lit hk
    have hv := rep_lit hx
    subst hu hv
    split at h
    · rename_i he
      subst he
      simp only [Option.some.injEq] at h
      subst h
      exact ⟨rfl, fun h => by rw [beq_iff_eq.1 h], fun c hc => by cases c <;> simp_all [ckIs]⟩
    · cases h
  · have hu := rep_lit hk
    have hv := rep_lit hx
    subst hu hv
    simp only [Option.some.injEq] at h
    subst h
    refine ⟨?_, fun h => by rw [(Go.MapKept.bytes_beq _ _).1 h], fun c hc => by cases c <;> simp_all [ckIs]⟩
    exact beq_toListBytes _ _
  · have hu := rep_lit hk
    have hv := rep_lit hx
    subst hu hv
    simp only [Option.some.injEq] at h
    subst h
    exact ⟨rfl, fun h => by rw [beq_iff_eq.1 h], fun c hc => by cases c <;> simp_all [ckIs]⟩
  · cases h
theorem keyCells_val : ∀ {as bs : List AV} {us vs : List Value} {b : Bool}, keyCells as bs = some b → as.length = us.length → bs.length = vs.length → (∀ (j : Nat) (c : AV) (u : Value), as[j]? = some c → us[j]? = some u → Rep w W gb c u) → (∀ (j : Nat) (c : AV) (u : Value), bs[j]? = some c → vs[j]? = some u → Rep w W gb c u) →
    b = veqs us vs ∧ ∀ ks, kmatch ks us = true → kmatch ks vs = true := by
  intro as
  induction as with
  | nil =>
    intro bs us vs b h hl hl' _ _
    cases bs with
    | nil =>
      simp only [keyCells, Option.some.injEq] at h
      obtain rfl := List.eq_nil_of_length_eq_zero hl.symm
      obtain rfl := List.eq_nil_of_length_eq_zero hl'.symm
      exact ⟨h.symm, fun ks hk => hk⟩
    | cons _ _ => cases h
  | cons a as ih =>
    intro bs us vs b h hl hl' hr hr'
    cases bs with
    | nil => cases h
    | cons c bs =>
      cases us with
      | nil => simp at hl
      | cons u us =>
        cases vs with
        | nil => simp at hl'
        | cons v vs =>
          simp only [keyCells] at h
          split at h
          · rename_i x y hx hy
            simp only [Option.some.injEq] at h
            subst h
            obtain ⟨h1, _, h3⟩ := keyCell_val hx (hr 0 a u rfl rfl) (hr' 0 c v rfl rfl)
            obtain ⟨h4, h5⟩ := ih hy (by simpa using hl) (by simpa using hl') (fun j c u hc hu => hr (j + 1) c u hc hu) (fun j c u hc hu => hr' (j + 1) c u hc hu)
            refine ⟨by rw [h1, h4]; rfl, fun ks hk => ?_⟩
            cases ks with
            | nil => cases hk
            | cons k ks =>
              simp only [kmatch, Bool.and_eq_true] at hk ⊢
              exact ⟨h3 k hk.1, h5 ks hk.2⟩
          · cases h
theorem kmatchA_val : ∀ {ks : List CK} {cs : List AV} {us : List Value}, kmatchA ks cs = true → cs.length = us.length → (∀ (j : Nat) (c : AV) (u : Value), cs[j]? = some c → us[j]? = some u → Rep w W gb c u) → kmatch ks us = true := by
  intro ks
  induction ks with
  | nil =>
    intro cs us h hl _
    cases cs with
    | nil => obtain rfl := List.eq_nil_of_length_eq_zero hl.symm; rfl
    | cons _ _ => cases h
  | cons k ks ih =>
    intro cs us h hl hr
    cases cs with
    | nil => cases h
    | cons c cs =>
      cases us with
      | nil => simp at hl
      | cons u us =>
        cases c with
        | lit v =>
          simp only [kmatchA, Bool.and_eq_true] at h
          have h0 := rep_lit (hr 0 _ u rfl rfl)
          subst h0
          simp only [kmatch, Bool.and_eq_true]
          exact ⟨h.1, ih h.2 (by simpa using hl) fun j c u hc hu => hr (j + 1) c u hc hu⟩
        | _ => cases h
theorem keyEq_plain {k x : AV} (h : ∀ cs, k ≠ .agg cs) : keyEq k x = keyCell k x := by
  cases k <;> first | rfl | exact absurd rfl (h _)
theorem findNow_of {d : TypeDesc} {k : AV} {u : Value} (hs : ∀ x v b, keyEq k x = some b → Rep w W gb x v → Instr.sameNow d u v = some b) : ∀ (es : List ME) (ents : List MapEntry) (i : Nat) (r : Option (Nat × AV)), es.length = ents.length → (∀ (j : Nat) (e : ME) (x : MapEntry), es[j]? = some e → ents[j]? = some x → RepE w W gb e x) → mfind k es i = some r →
    (r = none ∧ Instr.findNow d u ents i = some none) ∨ ∃ j v x e, r = some (i + j, v) ∧ es[j]? = some e ∧ ents[j]? = some x ∧ v = e.val ∧ keyEq k e.key = some true ∧ Instr.findNow d u ents i = some (some (i + j, x.val)) := by
  intro es
  induction es with
  | nil =>
    intro ents i r hl _ hr
    simp only [mfind, Option.some.injEq] at hr
    obtain rfl := List.eq_nil_of_length_eq_zero hl.symm
    exact .inl ⟨hr.symm, rfl⟩
  | cons e es ih =>
    intro ents i r hl hrep hr
    cases ents with
    | nil => simp at hl
    | cons x ents =>
      have h0 := hrep 0 e x rfl rfl
      simp only [mfind] at hr
      split at hr
      · rename_i hb
        simp only [Option.some.injEq] at hr
        subst hr
        exact .inr ⟨0, e.val, x, e, rfl, rfl, rfl, rfl, hb, by simp [Instr.findNow, hs _ _ _ hb h0.key]⟩
      · rename_i hb
        rcases ih ents (i + 1) r (by simpa using hl) (fun j e x he hx => hrep (j + 1) e x he hx) hr with ⟨h1, h2⟩ | ⟨j, v, x', e', h1, h2, h3, h4, h5, h6⟩
        · exact .inl ⟨h1, by simp [Instr.findNow, hs _ _ _ hb h0.key, h2]⟩
        · refine .inr ⟨j + 1, v, x', e', by rw [h1]; congr 2; omega, h2, h3, h4, h5, ?_⟩
          simp only [Instr.findNow, hs _ _ _ hb h0.key, h6]
          congr 3; omega
      · cases hr
theorem findAsking_of {t : Nat} {k : AV} {u : Value} (hs : ∀ x v b, keyEq k x = some b → Rep w W gb x v → (Op.equal t u v).run P w = .ok b w) : ∀ (es : List ME) (ents : List MapEntry) (i : Nat) (r : Option (Nat × AV)), es.length = ents.length → (∀ (j : Nat) (e : ME) (x : MapEntry), es[j]? = some e → ents[j]? = some x → RepE w W gb e x) → mfind k es i = some r →
    (r = none ∧ (Instr.findAsking t u ents i).run P w = .ok none w) ∨ ∃ j v x e, r = some (i + j, v) ∧ es[j]? = some e ∧ ents[j]? = some x ∧ v = e.val ∧ keyEq k e.key = some true ∧ (Instr.findAsking t u ents i).run P w = .ok (some (i + j, x.val)) w := by
  intro es
  induction es with
  | nil =>
    intro ents i r hl _ hr
    simp only [mfind, Option.some.injEq] at hr
    obtain rfl := List.eq_nil_of_length_eq_zero hl.symm
    exact .inl ⟨hr.symm, by simp [Instr.findAsking]⟩
  | cons e es ih =>
    intro ents i r hl hrep hr
    cases ents with
    | nil => simp at hl
    | cons x ents =>
      have h0 := hrep 0 e x rfl rfl
      simp only [mfind] at hr
      split at hr
      · rename_i hb
        simp only [Option.some.injEq] at hr
        subst hr
        exact .inr ⟨0, e.val, x, e, rfl, rfl, rfl, rfl, hb, by simp [Instr.findAsking, hs _ _ _ hb h0.key]⟩
      · rename_i hb
        rcases ih ents (i + 1) r (by simpa using hl) (fun j e x he hx => hrep (j + 1) e x he hx) hr with ⟨h1, h2⟩ | ⟨j, v, x', e', h1, h2, h3, h4, h5, h6⟩
        · exact .inl ⟨h1, by simp [Instr.findAsking, hs _ _ _ hb h0.key, h2]⟩
        · refine .inr ⟨j + 1, v, x', e', by rw [h1]; congr 2; omega, h2, h3, h4, h5, ?_⟩
          simp only [Instr.findAsking, Sem.run_bind, hs _ _ _ hb h0.key, Result.andThen_ok, Bool.false_eq_true, if_false, h6]
          congr 3; omega
      · cases hr
def FindIs (P : Program) (w : World) (t : Nat) (k : AV) (u : Value) (es : List ME) (ents : List MapEntry) (r : Option (Nat × AV)) : Prop :=
  (r = none ∧ (Instr.findKey t u ents).run P w = .ok none w) ∨ ∃ j v x e, r = some (j, v) ∧ es[j]? = some e ∧ ents[j]? = some x ∧ v = e.val ∧ keyEq k e.key = some true ∧ (Instr.findKey t u ents).run P w = .ok (some (j, x.val)) w
structure IsKey (P : Program) (w : World) (W : Nat → Nat → Prop) (gb : Gb) (t : Nat) (k : AV) (u : Value) : Prop where
  check : ∀ em, (Instr.checkKey em 10000 t u).run P w = .ok () w
  stays : (Instr.keyThatStays u u).run P w = .ok u w
  same : ∀ x v, keyEq k x = some true → Rep w W gb x v → v = u
  find : ∀ (es : List ME) (ents : List MapEntry) (r : Option (Nat × AV)), es.length = ents.length → (∀ (j : Nat) (e : ME) (x : MapEntry), es[j]? = some e → ents[j]? = some x → RepE w W gb e x) → mfind k es 0 = some r → FindIs P w t k u es ents r
theorem isKey_scalar {t : Nat} {k : AV} {u : Value} {d : TypeDesc} (hd : P.underlying t = some d) (hr : Rep w W gb k u) (hk : ∀ cs, k ≠ .agg cs) (hs : ∀ x v b, keyEq k x = some b → Rep w W gb x v → Instr.sameNow d u v = some b) (hc : ∀ em, (Instr.checkKey em 10000 t u).run P w = .ok () w) (hst : (Instr.keyThatStays u u).run P w = .ok u w) : IsKey P w W gb t k u where
  check := hc
  stays := hst
  same := fun x v h hx => by
    rw [keyEq_plain hk] at h
    exact (keyCell_val h hr hx).2.1 rfl
  find := fun es ents r hl hrep hm => by
    rcases findNow_of hs es ents 0 r hl hrep hm with ⟨h1, h2⟩ | ⟨j, v, x, e, h1, h2, h3, h4, h5, h6⟩
    · exact .inl ⟨h1, Go.MapKept.run_findKey hd h2⟩
    · rw [Nat.zero_add] at h1 h6
      exact .inr ⟨j, v, x, e, h1, h2, h3, h4, h5, Go.MapKept.run_findKey hd h6⟩
theorem isKey_of {t : Nat} {k : AV} {u : Value} (hT : T.Ok P) (hk : keyKind T t k = true) (hr : Rep w W gb k u) : IsKey P w W gb t k u := by
  unfold keyKind at hk
  split at hk
  · rename_i kk m
    obtain ⟨k0, hk0⟩ := Option.isSome_iff_exists.1 hk
    have hu := rep_lit hr
    subst hu
    have hd := hT.ints _ (lk?_mem hk0)
    refine isKey_scalar hd hr (fun _ h => by cases h) (fun x v b hb hx => ?_) (fun em => ?_) ?_
    · rw [keyEq_plain (fun _ h => by cases h)] at hb
      unfold keyCell at hb
      split at hb
      · rename_i k1 m1 k2 m2 heq
        injection heq with heq
        injection heq with e1 e2
        subst e1 e2
        have hv := rep_lit hx
        subst hv
        split at hb
        · rename_i he
          subst he
          simp only [Option.some.injEq] at hb
          simp [Instr.sameNow, hb]
        · cases hb
      · rename_i heq; cases heq
      · rename_i heq; cases heq
      · cases hb
    · have : ∀ (d : Nat) (e : Bool), (Instr.checkKey e (d + 1) t (.int kk m)).run P w = .ok () w := fun d e => by simp [Instr.checkKey, run_underlying hd]
      exact this 9999 em
    · have : ∀ d : Nat, Instr.sameBits (d + 1) (.int kk m) (.int kk m) = true := fun d => by simp [Instr.sameBits]
      simp [Instr.keyThatStays, this 9999]
  · rename_i b0
    have hu := rep_lit hr
    subst hu
    have hd := hT.strs _ (List.elem_iff.1 hk)
    refine isKey_scalar hd hr (fun _ h => by cases h) (fun x v b hb hx => ?_) (fun em => ?_) ?_
    · rw [keyEq_plain (fun _ h => by cases h)] at hb
      unfold keyCell at hb
      split at hb
      · rename_i heq; cases heq
      · rename_i s1 s2 heq
        injection heq with heq
        injection heq with e1
        subst e1
        have hv := rep_lit hx
        subst hv
        simp only [Option.some.injEq] at hb
        simp [Instr.sameNow, hb]
      · rename_i heq; cases heq
      · cases hb
    · have : ∀ (d : Nat) (e : Bool), (Instr.checkKey e (d + 1) t (.string b0)).run P w = .ok () w := fun d e => by simp [Instr.checkKey, run_underlying hd]
      exact this 9999 em
    · exact MapKept.run_keyThatStays (d := .string) trivial
  · rename_i b0
    have hu := rep_lit hr
    subst hu
    have hd := hT.bools _ (List.elem_iff.1 hk)
    refine isKey_scalar hd hr (fun _ h => by cases h) (fun x v b hb hx => ?_) (fun em => ?_) ?_
    · rw [keyEq_plain (fun _ h => by cases h)] at hb
      unfold keyCell at hb
      split at hb
      · rename_i heq; cases heq
      · rename_i heq; cases heq
      · rename_i s1 s2 heq
        injection heq with heq
        injection heq with e1
        subst e1
        have hv := rep_lit hx
        subst hv
        simp only [Option.some.injEq] at hb
        simp [Instr.sameNow, hb]
      · cases hb
    · have : ∀ (d : Nat) (e : Bool), (Instr.checkKey e (d + 1) t (.bool b0)).run P w = .ok () w := fun d e => by simp [Instr.checkKey, run_underlying hd]
      exact this 9999 em
    · exact MapKept.run_keyThatStays (d := .bool) trivial
  · rename_i cs
    cases hr with
    | agg _ us hl h1 hr =>
      split at hk
      · rename_i ks hks
        obtain ⟨hf, ha⟩ := hT.keys _ (lk?_mem hks)
        have hm := kmatchA_val hk hl hr
        have hw : (match P.underlying t with | some (.array _ _) | some (.struct _) => true | _ => false) = true := by
          unfold aggTy at ha
          split at ha <;> simp_all
        have hq : ∀ x v b, keyEq (.agg cs) x = some b → Rep w W gb x v → (Op.equal t (.agg us.toArray) v).run P w = .ok b w ∧ (b = true → v = .agg us.toArray) := fun x v b hb hx => by
          cases x with
          | agg bs =>
            cases hx with
            | agg _ vs hl' h1' hr' =>
              obtain ⟨e, hkm⟩ := keyCells_val hb hl hl' hr hr'
              have := eq_flat 8 9992 t ks hf us vs w hm (hkm ks hm)
              rw [ha] at this
              subst e
              exact ⟨this, fun hb => by rw [veqs_same hm (hkm ks hm) hb]⟩
          | _ => cases hb
        refine ⟨fun em => ?_, ?_, fun x v h hx => (hq x v true h hx).2 rfl, fun es ents r hle hrep hmf => ?_⟩
        · have := ck_flat em 8 9992 t ks hf us w hm
          rw [ha] at this
          exact this
        · simp [Instr.keyThatStays, sameBits_flat hm]
        · unfold FindIs
          rw [run_findKey_eq w hw]
          rcases findAsking_of (fun x v b h hx => (hq x v b h hx).1) es ents 0 r hle hrep hmf with h | ⟨j, v, x, e, h1, h2, h3, h4, h5, h6⟩
          · exact .inl h
          · rw [Nat.zero_add] at h1 h6
            exact .inr ⟨j, v, x, e, h1, h2, h3, h4, h5, h6⟩
      · cases hk
  · cases hk
theorem rep_map (h : HeapOk P w F gb H n) {id : Nat} {v : Value} {es : List ME} {clock : Nat} (hx : Rep w (Wr F gb H) gb (.mp id) v) (ho : H id = some (.map es clock)) : ∃ g size ents, gb id = some (g, size) ∧ v = .map (some g) ∧ w.heap[g]? = some (.map ents clock) ∧ es.length = ents.size ∧
    ∀ (j : Nat) (e : ME) (x : MapEntry), es[j]? = some e → ents[j]? = some x → RepE w (Wr F gb H) gb e x := by
  cases hx with
  | mp _ g size hg =>
    rcases h.live id _ ho with ⟨g', size', hg', ents, h1, h2, h3⟩ | ⟨hg', m, e, he⟩
    · rw [hg] at hg'
      injection hg' with hg'
      injection hg' with e1 e2
      subst e1 e2
      exact ⟨g, size, ents, hg, rfl, h1, h2, h3⟩
    · cases he
theorem v_look {t : TypeId} {x k : Operand} {ok : Bool} {r : AV} (hop : o.op = .lookup t x k ok) (hT : T.Ok P) (h : alook T s.heap t (s.eval x) (s.eval k) ok = some r) (g : Good P N F w0 gb0 H0 s a w gb) : ∃ u, (execOp a.eval o).run P w = .ok (.value u) w ∧ Rep w (Wr F gb s.heap) gb r u := by
  unfold alook at h
  split at h
  · rename_i I hI
    obtain ⟨hu, hz⟩ := hT.maps _ (lk?_mem hI)
    cases hkk : keyKind T I.key (s.eval k) with
    | false => rw [hkk] at h; cases h
    | true =>
      rw [hkk] at h
      simp only [cond_true] at h
      have hik := isKey_of hT hkk (g.eval k)
      have hx := g.eval x
      have tupR : ∀ {v : AV} {u : Value} (b : Bool), Rep w (Wr F gb s.heap) gb v u → Rep w (Wr F gb s.heap) gb (bif ok then .tup [v, .lit (.bool b)] else v) (if ok then .tuple #[u, .bool b] else u) := by
        intro v u b hv
        cases ok with
        | true =>
          refine Rep.tup [v, .lit (.bool b)] [u, .bool b] rfl fun j c y hc hy => ?_
          match j with
          | 0 => simp only [List.getElem?_cons_zero, Option.some.injEq] at hc hy; subst hc hy; exact hv
          | 1 => simp only [List.getElem?_cons_succ, List.getElem?_cons_zero, Option.some.injEq] at hc hy; subst hc hy; exact .lit _
          | j + 2 => simp at hc
        | false => exact hv
      have hck := hik.check
      have fin : ∀ (es : Array MapEntry) (rr : Option (Nat × Value)) (v : AV) (u : Value) (b : Bool), (a.eval x = .map none ∧ es = #[] ∨ ∃ g clock, a.eval x = .map (some g) ∧ w.heap[g]? = some (.map es clock)) → (Instr.findKey I.key (a.eval k) es.toList).run P w = .ok rr w → (match rr with | some (_, y) => u = y ∧ b = true | none => u = I.zero ∧ b = false) → Rep w (Wr F gb s.heap) gb v u → r = (bif ok then .tup [v, .lit (.bool b)] else v) →
          ∃ u, (execOp a.eval o).run P w = .ok (.value u) w ∧ Rep w (Wr F gb s.heap) gb r u := by
        intro es rr v u b hm hf hrr hv hr
        subst hr
        refine ⟨_, ?_, tupR b hv⟩
        unfold execOp
        simp only [hop]
        rw [Sem.run_bind]
        unfold Instr.lookup
        rcases hm with ⟨hm, rfl⟩ | ⟨gg, clock, hm, hb⟩
        · simp only [hm, Sem.run_bind, run_underlying hu, Result.andThen_ok, Sem.run_pure, hck, hf]
          cases rr with
          | some p => obtain ⟨rfl, rfl⟩ := hrr; cases ok <;> simp
          | none => obtain ⟨rfl, rfl⟩ := hrr; cases ok <;> simp [run_zero_some hz]
        · simp only [hm, Sem.run_bind, run_underlying hu, Result.andThen_ok, Sem.run_pure, hck, hf, MapKept.run_getObj_map hb]
          cases rr with
          | some p => obtain ⟨rfl, rfl⟩ := hrr; cases ok <;> simp
          | none => obtain ⟨rfl, rfl⟩ := hrr; cases ok <;> simp [run_zero_some hz]
      split at h
      · rename_i j v hm
        simp only [Option.some.injEq] at h
        split at hm
        · rename_i id hxe
          rw [hxe] at hx
          split at hm
          · rename_i es clock ho'
            obtain ⟨gg, size, ents, hg, hv, hb, hl, hrep⟩ := rep_map g.ok hx ho'
            rcases hik.find es ents.toList _ (by simpa using hl) (fun j e x he hx => hrep j e x he (by simpa using hx)) hm with ⟨h1, _⟩ | ⟨j', v', x', e', h1, h2, h3, h4, _, h6⟩
            · cases h1
            · injection h1 with h1
              injection h1 with e1 e2
              subst e2 h4
              exact fin ents _ _ x'.val true (.inr ⟨gg, clock, hv, hb⟩) h6 ⟨rfl, rfl⟩ (hrep j' e' x' h2 (by simpa using h3)).val h.symm
          · cases hm
        · cases hm
        · cases hm
      · rename_i hm
        simp only [Option.some.injEq] at h
        split at hm
        · rename_i id hxe
          rw [hxe] at hx
          split at hm
          · rename_i es clock ho'
            obtain ⟨gg, size, ents, hg, hv, hb, hl, hrep⟩ := rep_map g.ok hx ho'
            rcases hik.find es ents.toList _ (by simpa using hl) (fun j e x he hx => hrep j e x he (by simpa using hx)) hm with ⟨_, h2⟩ | ⟨j', v', x', e', h1, _⟩
            · exact fin ents none _ I.zero false (.inr ⟨gg, clock, hv, hb⟩) h2 ⟨rfl, rfl⟩ (.lit _) h.symm
            · cases h1
          · cases hm
        · rename_i hxe
          rw [hxe] at hx
          exact fin #[] none _ I.zero false (.inl ⟨rep_lit hx, rfl⟩) (by rcases hik.find [] [] none rfl (fun j e x he => by simp at he) rfl with ⟨_, h2⟩ | ⟨_, _, _, _, h1, _⟩; exact h2; cases h1) ⟨rfl, rfl⟩ (.lit _) h.symm
        · cases hm
      · cases h
  · cases h
end
end Go.Proofs.Ytheanmfdfoefoaa.Hv
