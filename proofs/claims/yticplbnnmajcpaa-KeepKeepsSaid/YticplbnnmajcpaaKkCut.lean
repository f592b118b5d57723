/- keep.Cut and what it calls, by the walk over a heap: its pieces are rows that may be written in. -/
import Derived.Test.YticplbnnmajcpaaHvTab
import Derived.Test.YticplbnnmajcpaaHvOwn
import Derived.Test.YticplbnnmajcpaaKeepB
import Derived.Test.YticplbnnmajcpaaCut2
import Derived.Test.YticplbnnmajcpaaCut
set_option linter.unusedVariables false
set_option linter.unusedSimpArgs false
namespace Go.Proofs.Yticplbnnmajcpaa
open Go Go.RowKit Hv
theorem wrap_nat {k : Nat} (h : k < 9223372036854775807) : IntKind.i64.wrap ((k : Int) + 1) = ((k + 1 : Nat) : Int) := by
  rw [IntWalk.i64_in _ (by omega)]; rfl
theorem wrap_pred {k : Nat} (h0 : 1 ≤ k) (h : k < 9223372036854775807) : IntKind.i64.wrap ((k : Int) - 1) = ((k - 1 : Nat) : Int) := by
  rw [IntWalk.i64_in _ (by omega)]; omega
theorem wrap_wrap (a : Int) : IntKind.i64.wrap (IntKind.i64.wrap a) = IntKind.i64.wrap a := by
  unfold IntKind.wrap; simp [IntKind.bits, IntKind.signed]; omega
theorem wrap_addl (a b : Int) : IntKind.i64.wrap (IntKind.i64.wrap a + b) = IntKind.i64.wrap (a + b) := by
  unfold IntKind.wrap; simp [IntKind.bits, IntKind.signed]; omega
theorem wrap_addr (a b : Int) : IntKind.i64.wrap (a + IntKind.i64.wrap b) = IntKind.i64.wrap (a + b) := by
  rw [Int.add_comm, wrap_addl, Int.add_comm]
theorem wrap_subl (a b : Int) : IntKind.i64.wrap (IntKind.i64.wrap a - b) = IntKind.i64.wrap (a - b) := by
  unfold IntKind.wrap; simp [IntKind.bits, IntKind.signed]; omega
theorem wrap_subr (a b : Int) : IntKind.i64.wrap (a - IntKind.i64.wrap b) = IntKind.i64.wrap (a - b) := by
  unfold IntKind.wrap; simp [IntKind.bits, IntKind.signed]; omega
theorem wrap3 (a b c : Int) : IntKind.i64.wrap (IntKind.i64.wrap (IntKind.i64.wrap a + IntKind.i64.wrap b) + IntKind.i64.wrap c) = IntKind.i64.wrap (a + b + c) := by
  have h1 : IntKind.i64.wrap (IntKind.i64.wrap a + IntKind.i64.wrap b) = IntKind.i64.wrap (a + b) := by rw [wrap_addr, wrap_addl]
  rw [h1, wrap_addr, wrap_addl]
/-- The bytes of keys and values. -/
def wgtS (l : List CellD) : Int := (l.map fun c => (c.key.size : Int) + c.val.size).sum
def wgt (l : List CellD) : Int := IntKind.i64.wrap (wgtS l)
theorem wgtS_app (l m : List CellD) : wgtS (l ++ m) = wgtS l + wgtS m := by unfold wgtS; simp
theorem wgtS_take {l : List CellD} {k : Nat} {x : CellD} (hx : l[k]? = some x) : wgtS (l.take (k + 1)) = wgtS (l.take k) + ((x.key.size : Int) + x.val.size) := by
  rw [List.take_add_one, hx, wgtS_app]
  simp [wgtS]

def cellH (c : CellD) : List AV := [.lit (.string c.key), .lit (.int .i64 c.seq), .lit (.int .i64 c.kind), .lit (.string c.val)]
theorem cellH_len (c : CellD) : (cellH c).length = 4 := rfl
theorem cellH_lit (c : CellD) : cellH c = (cellC c).map AV.lit := rfl
theorem cellC_ones (c : CellD) : ∀ u ∈ cellC c, u.oneCell' = true := by intro u hu; simp [cellC] at hu; rcases hu with rfl | rfl | rfl | rfl <;> rfl
theorem nid_cells (l : List CellD) : NoId (.sl (l.map cellH)) := by
  refine .sl _ fun it hit c hc => ?_
  obtain ⟨x, _, rfl⟩ := List.mem_map.1 hit
  simp only [cellH, List.mem_cons, List.not_mem_nil, or_false] at hc
  rcases hc with rfl | rfl | rfl | rfl <;> exact .lit _
theorem nid_one {x : AV} (h : NoId x) : ∀ y ∈ [x], NoId y := by intro y hy; rw [List.mem_singleton.1 hy]; exact h
theorem right_h (l : List CellD) : ACalls Try.prog 28 [.sl (l.map cellH)] (.lit (.bool (rightL l))) := by
  refine ⟨by kernel_rfl, fun w W gb vs hW hl hr => ?_⟩
  match vs, hl with
  | [v], _ =>
    have hv := rd_of_rep cellH_lit cellC_len (hr 0 _ v rfl rfl)
    exact (right_calls l v w hv).mono fun e w' ⟨he, hb⟩ => ⟨_, he, .lit _, hb⟩
set_option maxRecDepth 20000 in
set_option maxHeartbeats 4000000 in
theorem weight_h (l : List CellD) (hl : l.length ≤ 1000000) : ACalls Try.prog 32 [.sl (l.map cellH)] (.lit (.int .i64 (wgt l))) := by
  refine acallsC_of (rs := [.tmp 2]) ⟨[0, 2, 3, 5, 6, 7, 8, 9], [], [], [], [], []⟩ TOk mixed Try.func32 rfl rfl (by kernel_rfl) (by kernel_rfl) rfl (nid_one (nid_cells l)) (.lit _) ?_
  simp only [push_cast, Nat.reduceBEq, Nat.reduceAdd, Nat.reduceEqDiff, reduceCtorEq, Nat.reduceLeDiff, Nat.reduceSub, Nat.reduceMul, Nat.reduceLT, Int.reduceEq, Int.reduceLT, Int.reduceLE, Int.reduceBEq, Int.reduceBNe, Int.reduceToNat, Int.reduceNeg, Int.reduceSub, Int.reduceAdd]
  refine loopK (fun n s => ∃ (k : Nat) (H : Hp) (m : Nat), k ≤ l.length ∧ n = l.length - k ∧ s = ⟨[(3, .lit (.int .i64 (wgt (l.take k)))), (6, .sl (l.map cellH)), (7, .lit (.int .i64 l.length)), (8, .lit (.int .i64 k))], H, m⟩) _ [3, 6, 7, 8] ⟨0, _, _, Nat.zero_le _, rfl, rfl⟩ ?_
  rintro n _ ⟨k, H, m, hk, rfl, rfl⟩
  by_cases h : k < l.length
  · obtain ⟨x, hx⟩ : ∃ x, l[k]? = some x := ⟨_, List.getElem?_eq_getElem h⟩
    have hw := wrap_nat (k := k) (by omega)
    have e1 : IntKind.i64.wrap (wgt (l.take k) + IntKind.i64.wrap ((x.key.size : Int) + (x.val.size : Int))) = wgt (l.take (k + 1)) := by
      unfold wgt
      rw [wrap_addr, wrap_addl, wgtS_take hx]
    simp only [push_cast, Nat.reduceBEq, Nat.reduceAdd, Nat.reduceEqDiff, reduceCtorEq, Nat.reduceLeDiff, Nat.reduceSub, Nat.reduceMul, Nat.reduceLT, Int.reduceEq, Int.reduceLT, Int.reduceLE, Int.reduceBEq, Int.reduceBNe, Int.reduceToNat, Int.reduceNeg, Int.reduceSub, Int.reduceAdd, h, hx, cellH, hw, e1]
    exact ⟨_, by omega, k + 1, _, _, by omega, rfl, rfl⟩
  · obtain rfl : k = l.length := by omega
    simp only [push_cast, Nat.reduceBEq, Nat.reduceAdd, Nat.reduceEqDiff, reduceCtorEq, Nat.reduceLeDiff, Nat.reduceSub, Nat.reduceMul, Nat.reduceLT, Int.reduceEq, Int.reduceLT, Int.reduceLE, Int.reduceBEq, Int.reduceBNe, Int.reduceToNat, Int.reduceNeg, Int.reduceSub, Int.reduceAdd, h, List.take_length]
set_option maxRecDepth 20000 in
set_option maxHeartbeats 4000000 in
theorem keys_h (l : List CellD) (hl : l.length ≤ 1000000) : ACalls Try.prog 30 [.sl (l.map cellH)] (.sl ((grp l).map fun g => [AV.sl (g.map cellH)])) := by
  refine acallsC_of (rs := [.tmp 2]) ⟨[0, 2, 3, 4, 5, 7, 8, 9, 31], [], [], [(6, [(0, [], []), (1, [], []), (2, [], []), (3, [], []), (4, [], []), (5, [], []), (6, [], []), (7, [], []), (8, [], []), (9, [], []), (10, [], []), (11, [], []), (12, [], []), (13, [], []), (14, [], []), (15, [], []), (16, [], []), (17, [], []), (18, [], []), (19, [], []), (20, [], [])])], [], []⟩ TOk mixed Try.func30 rfl rfl (by kernel_rfl) (by kernel_rfl) rfl (nid_one (nid_cells l)) (.sl _ fun it hit c hc => by obtain ⟨x, _, rfl⟩ := List.mem_map.1 hit; rw [List.mem_singleton.1 hc]; exact nid_cells _) ?_
  simp only [push_cast, Nat.reduceBEq, Nat.reduceAdd, Nat.reduceEqDiff, reduceCtorEq, Nat.reduceLeDiff, Nat.reduceSub, Nat.reduceMul, Nat.reduceLT, Int.reduceEq, Int.reduceLT, Int.reduceLE, Int.reduceBEq, Int.reduceBNe, Int.reduceToNat, Int.reduceNeg, Int.reduceSub, Int.reduceAdd]
  refine loopK (fun n s => ∃ (k fr : Nat) (gs : List (List CellD)) (H : Hp) (m o c : Nat), c = gs.length ∧ o < m ∧ H o = some (.row false 22 (gs.map fun g => [AV.sl (g.map cellH)])) ∧ k ≤ l.length ∧ fr ≤ k ∧ gs.length ≤ k ∧ (k = l.length → fr = l.length) ∧ gs ++ grp (l.drop fr) = grp l ∧ (∀ (a b : Nat) (x y : CellD), fr ≤ a → a ≤ k → fr ≤ b → b ≤ k → l[a]? = some x → l[b]? = some y → keqB x y = true) ∧ n = l.length - k ∧
      s = ⟨[(0, .sl (l.map cellH)), (3, .rw o 1 0 c), (4, .lit (.int .i64 fr)), (7, .lit (.int .i64 l.length)), (8, .lit (.int .i64 k))], H, m⟩) _ [0, 3, 4, 7, 8] ⟨0, 0, [], _, _, 1, 0, rfl, (by exact (by decide : (1 : Nat) < 2)), (by exact rfl), Nat.zero_le _, Nat.le_refl _, Nat.le_refl _, id, rfl, fun a b x y _ ha _ hb hx hy => ?_, rfl, rfl⟩ ?_
  · obtain rfl : a = 0 := by omega
    obtain rfl : b = 0 := by omega
    rw [hx] at hy
    injection hy with hy
    subst hy
    exact keqB_refl _
  rintro n _ ⟨k, fr, gs, H, m, o, _, rfl, hom, ho, hk, hfr, hgl, hend, hgs, hsame, rfl, rfl⟩
  by_cases h : k < l.length
  · obtain ⟨x, hx⟩ : ∃ x, l[k]? = some x := ⟨_, List.getElem?_eq_getElem h⟩
    have hw := wrap_nat (k := k) (by omega)
    have hcut : (∀ y, l[k + 1]? = some y → keqB x y = false) → gs ++ [(l.take (k + 1)).drop fr] ++ grp (l.drop (k + 1)) = grp l := by
      intro hd
      rw [← hgs]
      have hlen : (l.drop fr).length = l.length - fr := by simp
      have h1 := grp_cut (l.drop fr) (k + 1 - fr) (by omega) (by omega) (fun j hj => by
        rw [List.getElem_drop, List.getElem_drop]
        exact hsame (fr + 0) (fr + j) _ _ (by omega) (by omega) (by omega) (by omega) (List.getElem?_eq_getElem (by omega)) (List.getElem?_eq_getElem (by omega))) (fun h' => by
        rw [List.getElem_drop, List.getElem_drop]
        have hxx := hsame (fr + 0) k _ x (by omega) (by omega) (by omega) (by omega) (List.getElem?_eq_getElem (by omega)) hx
        have hy := hd (l[fr + (k + 1 - fr)]'(by omega)) (by rw [← List.getElem?_eq_getElem]; congr 1; omega)
        rw [keqB_fun hxx]; exact hy)
      rw [h1, List.drop_drop, show fr + (k + 1 - fr) = k + 1 by omega, List.drop_take]
      simp
    have hnext : ∀ (a b : Nat) (x y : CellD), k + 1 ≤ a → a ≤ k + 1 → k + 1 ≤ b → b ≤ k + 1 → l[a]? = some x → l[b]? = some y → keqB x y = true := by
      intro a b x y h1 h2 h3 h4 hx hy
      obtain rfl : a = k + 1 := by omega
      obtain rfl : b = k + 1 := by omega
      rw [hx] at hy
      injection hy with hy
      subst hy
      exact keqB_refl _
    obtain ⟨K, hK⟩ : ∃ K, k + 1 = K := ⟨_, rfl⟩
    rw [hK] at hw hcut hnext
    have hb : (gs.length + 1) * 24 ≤ 140737488355328 := by omega
    have hf1 : fr ≤ K := by omega
    have q1 : (m == o) = false := neB (by omega)
    have q2 : (o == m) = false := neB (by omega)
    have q3 : (m + 1 == o) = false := neB (by omega)
    have q4 : (m + 1 == m) = false := neB (by omega)
    have hf2 : K ≤ l.length := by omega
    by_cases hlast : K = l.length
    · have hl1 : ((K : Int) == (l.length : Int)) = true := by rw [beq_iff_eq]; omega
      simp only [push_cast, Nat.reduceBEq, Nat.reduceAdd, Nat.reduceEqDiff, reduceCtorEq, Nat.reduceLeDiff, Nat.reduceSub, Nat.reduceMul, Nat.reduceLT, Int.reduceEq, Int.reduceLT, Int.reduceLE, Int.reduceBEq, Int.reduceBNe, Int.reduceToNat, Int.reduceNeg, Int.reduceSub, Int.reduceAdd, h, hx, cellH, hw, hl1, hf1, hf2, hb, ho, q1, q2, q3, q4, ← List.map_take, ← List.map_drop]
      refine ⟨_, by omega, K, K, gs ++ [(l.take K).drop fr], _, _, m + 1, _, (by simp), (by exact Nat.lt_succ_self (m + 1)), (by rw [List.map_append]; exact upd_same _ _ _), by omega, Nat.le_refl _, by simp; omega, fun h => h, hcut (fun y hy => by rw [List.getElem?_eq_none (by omega)] at hy; cases hy), hnext, rfl, rfl⟩
    · have hl1 : ((K : Int) == (l.length : Int)) = false := by rw [← Bool.not_eq_true, beq_iff_eq]; omega
      obtain ⟨y, hy⟩ : ∃ y, l[K]? = some y := ⟨_, List.getElem?_eq_getElem (by omega)⟩
      cases hxy : (y.key.toList == x.key.toList) with
      | false =>
        simp only [push_cast, Nat.reduceBEq, Nat.reduceAdd, Nat.reduceEqDiff, reduceCtorEq, Nat.reduceLeDiff, Nat.reduceSub, Nat.reduceMul, Nat.reduceLT, Int.reduceEq, Int.reduceLT, Int.reduceLE, Int.reduceBEq, Int.reduceBNe, Int.reduceToNat, Int.reduceNeg, Int.reduceSub, Int.reduceAdd, h, hx, hy, cellH, hw, hl1, hf1, hf2, hb, hxy, ho, q1, q2, q3, q4, ← List.map_take, ← List.map_drop]
        refine ⟨_, by omega, K, K, gs ++ [(l.take K).drop fr], _, _, m + 1, _, (by simp), (by exact Nat.lt_succ_self (m + 1)), (by rw [List.map_append]; exact upd_same _ _ _), by omega, Nat.le_refl _, by simp; omega, fun h => h, hcut (fun y' hy' => by rw [hy] at hy'; injection hy' with hy'; subst hy'; rw [keqB_comm]; exact hxy), hnext, rfl, rfl⟩
      | true =>
        simp only [push_cast, Nat.reduceBEq, Nat.reduceAdd, Nat.reduceEqDiff, reduceCtorEq, Nat.reduceLeDiff, Nat.reduceSub, Nat.reduceMul, Nat.reduceLT, Int.reduceEq, Int.reduceLT, Int.reduceLE, Int.reduceBEq, Int.reduceBNe, Int.reduceToNat, Int.reduceNeg, Int.reduceSub, Int.reduceAdd, h, hx, hy, cellH, hw, hl1, hf1, hf2, hb, hxy, ho, q1, q2, q3, q4]
        refine ⟨_, by omega, K, fr, gs, _, _, _, _, rfl, hom, ho, by omega, by omega, by omega, fun h => by omega, hgs, fun a b u v h1 h2 h3 h4 hu hv => ?_, rfl, rfl⟩
        have key : ∀ (a : Nat) (u : CellD), fr ≤ a → a ≤ K → l[a]? = some u → keqB x u = true := by
          intro a u h1 h2 hu
          by_cases hak : a = K
          · subst hak
            rw [hy] at hu
            injection hu with hu
            subst hu
            rw [keqB_comm]; exact hxy
          · exact hsame k a x u (by omega) (by omega) h1 (by omega) hx hu
        rw [← keqB_fun (key a u h1 h2 hu)]
        exact key b v h3 h4 hv
  · obtain rfl : k = l.length := by omega
    have hg : gs = grp l := by
      rw [← hgs, hend rfl, List.drop_length]
      simp [grp]
    simp only [push_cast, Nat.reduceBEq, Nat.reduceAdd, Nat.reduceEqDiff, reduceCtorEq, Nat.reduceLeDiff, Nat.reduceSub, Nat.reduceMul, Nat.reduceLT, Int.reduceEq, Int.reduceLT, Int.reduceLE, Int.reduceBEq, Int.reduceBNe, Int.reduceToNat, Int.reduceNeg, Int.reduceSub, Int.reduceAdd, h, hg, ho]
def heavy (size : Int) (l : List CellD) : Bool := decide (size ≤ IntKind.i64.wrap (wt l))
theorem wt_wgt (l : List CellD) : wt l = wgtS l + 16 * l.length := by
  induction l with
  | nil => rfl
  | cons c l ih =>
    rw [wt_cons, ih]
    unfold wgtS wtC
    simp
    omega
def cutR (l : List CellD) (size : Int) : List (List CellD) × Int := if size < 1 then ([], 1) else if rightL l then (cutP2 (heavy size) [] (grp l), 0) else ([], 2)

/-- A piece: its row's number, its things. -/
def pcA (q : Nat × List CellD) : AV := .rw q.1 4 0 q.2.length
theorem oldF (e : TypeId) (l : List (List AV)) : oldO true e l = none := rfl
structure CutI (H0 : Hp) (n0 : Nat) (H : Hp) (m po nn : Nat) (out : List (Nat × List CellD)) (now : List CellD) : Prop where
  hp : H po = some (.row false 22 (out.map fun q => [pcA q]))
  hn : H nn = some (.row true 35 (now.map cellH))
  hq : ∀ q ∈ out, H q.1 = some (.row true 35 (q.2.map cellH)) ∧ q.1 ≠ nn ∧ n0 ≤ q.1 ∧ q.1 < m
  nd : (out.map (·.1)).Nodup
  old : ∀ j, j < n0 → H j = H0 j
  bp : n0 ≤ po ∧ po < m
  bn : n0 ≤ nn ∧ nn < m
theorem CutI.ne {H0 H : Hp} {n0 m po nn : Nat} {out : List (Nat × List CellD)} {now : List CellD} (h : CutI H0 n0 H m po nn out now) : po ≠ nn := by
  intro e
  have h1 := h.hp
  rw [e, h.hn] at h1
  injection h1 with h1
  injection h1 with h1
  cases h1
theorem CutI.nq {H0 H : Hp} {n0 m po nn : Nat} {out : List (Nat × List CellD)} {now : List CellD} (h : CutI H0 n0 H m po nn out now) {q : Nat × List CellD} (hq : q ∈ out) : q.1 ≠ po := by
  intro e
  have h1 := (h.hq q hq).1
  rw [e, h.hp] at h1
  injection h1 with h1
  injection h1 with h1
  cases h1
/-- What one object more, or one that nobody knows, makes of it. -/
theorem CutI.else {H0 H : Hp} {n0 m po nn : Nat} {out : List (Nat × List CellD)} {now : List CellD} (h : CutI H0 n0 H m po nn out now) {j m' : Nat} {oo : Option AO} (hj : m ≤ j) (hm : m ≤ m') : CutI H0 n0 (upd H j oo) m' po nn out now := by
  obtain ⟨h1, h2, h3, h4, h5, h6, h7⟩ := h
  exact ⟨by rw [upd_other (by omega)]; exact h1, by rw [upd_other (by omega)]; exact h2, fun q hq => by obtain ⟨a, b, c, d⟩ := h3 q hq; exact ⟨by rw [upd_other (by omega)]; exact a, b, c, by omega⟩, h4, fun i hi => by rw [upd_other (by omega)]; exact h5 i hi, ⟨h6.1, by omega⟩, ⟨h7.1, by omega⟩⟩
/-- The row of pieces has moved. -/
theorem CutI.out {H0 H : Hp} {n0 m po nn p' : Nat} {out : List (Nat × List CellD)} {now : List CellD} {oo : Option AO} (h : CutI H0 n0 H m po nn out now) (hp' : m ≤ p') :
    CutI H0 n0 (upd (upd H po oo) p' (some (.row false 22 (out.map fun q => [pcA q])))) (p' + 1) p' nn out now := by
  have hne := h.ne
  have hnq := fun q hq => h.nq (q := q) hq
  obtain ⟨h1, h2, h3, h4, h5, h6, h7⟩ := h
  refine ⟨upd_same _ _ _, by rw [upd_other (by omega), upd_other hne]; exact h2, fun q hq => ?_, h4, fun i hi => by rw [upd_other (by omega), upd_other (by omega)]; exact h5 i hi, ⟨by omega, by omega⟩, ⟨h7.1, by omega⟩⟩
  obtain ⟨a, b, c, d⟩ := h3 q hq
  exact ⟨by rw [upd_other (by omega), upd_other (fun e => hnq q hq e.symm)]; exact a, b, c, by omega⟩
/-- What is put together is a piece more; another row is begun. -/
theorem CutI.flush {H0 H : Hp} {n0 m po nn p' n' : Nat} {out : List (Nat × List CellD)} {now g : List CellD} {oo : Option AO} (h : CutI H0 n0 H m po nn out now) (hp' : m ≤ p') (hn' : p' < n') :
    CutI H0 n0 (upd (upd (upd H po oo) p' (some (.row false 22 ((out ++ [(nn, now)]).map fun q => [pcA q])))) n' (some (.row true 35 (g.map cellH)))) (n' + 1) p' n' (out ++ [(nn, now)]) g := by
  have hne := h.ne
  have hnq := fun q hq => h.nq (q := q) hq
  obtain ⟨h1, h2, h3, h4, h5, h6, h7⟩ := h
  refine ⟨by rw [upd_other (by omega)]; exact upd_same _ _ _, upd_same _ _ _, fun q hq => ?_, ?_, fun i hi => by rw [upd_other (by omega), upd_other (by omega), upd_other (by omega)]; exact h5 i hi, ⟨by omega, by omega⟩, ⟨by omega, by omega⟩⟩
  · rcases List.mem_append.1 hq with hq | hq
    · obtain ⟨a, b, c, d⟩ := h3 q hq
      exact ⟨by rw [upd_other (by omega), upd_other (by omega), upd_other (fun e => hnq q hq e.symm)]; exact a, by omega, c, by omega⟩
    · rw [List.mem_singleton.1 hq]
      exact ⟨by rw [upd_other (show n' ≠ nn by omega), upd_other (show p' ≠ nn by omega), upd_other hne]; exact h2, by show nn ≠ n'; omega, h7.1, by show nn < n' + 1; omega⟩
  · rw [List.map_append, List.nodup_append]
    refine ⟨h4, by simp, fun a ha b hb e => ?_⟩
    obtain ⟨q, hq, rfl⟩ := List.mem_map.1 ha
    simp only [List.map_cons, List.map_nil, List.mem_singleton] at hb
    exact (h3 q hq).2.1 (e.trans hb)
/-- What is put together has moved and grown. -/
theorem CutI.grow {H0 H : Hp} {n0 m po nn n' : Nat} {out : List (Nat × List CellD)} {now now' : List CellD} {oo : Option AO} (h : CutI H0 n0 H m po nn out now) (hn' : m ≤ n') :
    CutI H0 n0 (upd (upd H nn oo) n' (some (.row true 35 (now'.map cellH)))) (n' + 1) po n' out now' := by
  have hne := h.ne
  obtain ⟨h1, h2, h3, h4, h5, h6, h7⟩ := h
  refine ⟨by rw [upd_other (by omega), upd_other (fun e => hne e.symm)]; exact h1, upd_same _ _ _, fun q hq => ?_, h4, fun i hi => by rw [upd_other (by omega), upd_other (by omega)]; exact h5 i hi, ⟨h6.1, by omega⟩, ⟨by omega, by omega⟩⟩
  obtain ⟨a, b, c, d⟩ := h3 q hq
  exact ⟨by rw [upd_other (by omega), upd_other (fun e => b e.symm)]; exact a, by omega, c, by omega⟩
end Go.Proofs.Yticplbnnmajcpaa
