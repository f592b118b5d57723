/- The document's View of a sorted list; the same pairs? -/
import Derived.Test.YtpemfmlonamikaaView
import Derived.Test.YtpemfmlonamikaaSortW
namespace Go.Proofs.Ytpemfmlonamikaa
open Go Go.RowKit

/-- A cell's pair: its key and its value. -/
def pairC (c : CellD) : List Value := [.string c.key, .string c.val]
theorem pairC_len (c : CellD) : (pairC c).length = 2 := rfl
theorem pairC_one (c : CellD) : ∀ u ∈ pairC c, u.oneCell' = true := by
  intro u hu
  simp only [pairC, List.mem_cons, List.not_mem_nil, or_false] at hu
  rcases hu with rfl | rfl <;> rfl
theorem et_pair : ElemT Try.prog 30 61 (.agg #[.string ⟨#[]⟩, .string ⟨#[]⟩]) 2 32 := .mk' Try.underlying30 (by kernel_rfl) rfl (by decide) (by decide)
theorem atPair {w W : World} {A : Option Addr} {n c : Nat} {l : List CellD} (h : RdT w 2 pairC (.slice A n c) l) (hb : Below w.heap.size w W) {k : Nat} (hk : k < l.length) :
    ∃ b off m, A = some ⟨b, off, none⟩ ∧ b < w.heap.size ∧ Hid (l[k] = m) ∧ W.cell? ⟨b, off + k * 2, none⟩ = some (.string m.key) ∧ W.cell? ⟨b, off + k * 2 + 1, none⟩ = some (.string m.val) := by
  obtain ⟨b, off, e, hlt, hc⟩ := h.atB hb pairC_len (by omega) hk
  exact ⟨b, off, _, e, hlt, rfl, hc 0 _ rfl, hc 1 _ rfl⟩
def pairEq (a b : CellD) : Bool := a.key.toList == b.key.toList && a.val.toList == b.val.toList
def samePD : List CellD → List CellD → Bool
  | [], [] => true
  | a :: l, b :: m => pairEq a b && samePD l m
  | _, _ => false
theorem samePD_refl : ∀ l : List CellD, samePD l l = true := by
  intro l
  induction l with
  | nil => rfl
  | cons a l ih => simp [samePD, pairEq, ih]
theorem samePD_len : ∀ (l m : List CellD), l.length ≠ m.length → samePD l m = false := by
  intro l
  induction l with
  | nil => intro m h; cases m with
    | nil => simp at h
    | cons => rfl
  | cons a l ih => intro m h; cases m with
    | nil => rfl
    | cons b m => simp only [samePD]; rw [ih m (by simpa using h)]; simp
theorem pair_neq (x y : CellD) (w : World) : (binOp .neq 61 (.agg #[.string x.key, .string x.val]) (.agg #[.string y.key, .string y.val])).run Try.prog w = .ok (.bool (!pairEq x y)) w := by
  have hu : Try.prog.underlying 61 = some (.struct (Try.prog.fieldsOf 61)) := by kernel_rfl
  have hh : Try.prog.stoodInHeld 61 = false := by kernel_rfl
  rw [run_neq_struct, run_equalIn_agg _ _ _ _ _ hu hh]
  have h25 := Try.underlying61
  simp [go_sem, Program.fieldsOf, h25, Try.underlying9]
  unfold pairEq
  repeat' split
  all_goals simp [*]
theorem pair_guard (x y : Operand) (xs ys : Array Value) (w : World) : (eqGuard .neq 61 x y (.agg xs) (.agg ys)).run Try.prog w = .ok () w := run_eqGuard_agg _ _ _ _ _ _ _ (by kernel_rfl)
set_option maxRecDepth 100000 in
set_option maxHeartbeats 1000000 in
theorem Pairs_calls (l m : List CellD) (v u : Value) (w : World) (hv : RdT w 2 pairC v l) (hu : RdT w 2 pairC u m) :
    Calls Try.prog 13 #[v, u] w fun e w' => e = .returned (.bool (samePD l m)) ∧ Below w.heap.size w w' := by
  have HV := Lib.hid hv
  have HU := Lib.hid hu
  obtain ⟨A, c, rfl, hnc, hcm⟩ := hv.len
  obtain ⟨A2, c2, rfl, hnc2, hcm2⟩ := hu.len
  go_enter Try.func13, Try.ntmps13
  by_cases hlm : l.length = m.length
  · have hlm' : ((l.length : Int) != m.length) = false := by simp; omega
    replace hlm := Lib.hid hlm
    go_wp2_with fail
    go_loopw [5] (fun iv wr => ∃ k : Nat, k ≤ l.length ∧ iv = .int .i64 (k : Int) ∧ Hid (samePD l m = samePD (l.drop k) (m.drop k)) ∧ Below w.heap.size w wr) (fun iv _ => l.length - (intOf iv).toNat)
    case atStart => exact ⟨0, Nat.zero_le _, rfl, rfl, Below.refl _ _⟩
    case round =>
      obtain ⟨k, hk, rfl, hs, hb⟩ := hrel
      have hsz := hb.size
      by_cases hkl : k < l.length
      · have hkl' : (k : Int) < l.length := by omega
        have hkm' : (k : Int) < m.length := by have := hlm.out; omega
        have hkm : k < m.length := by have := hlm.out; omega
        have h0 : (0 : Int) ≤ k := by omega
        obtain ⟨b, off, x, hA, hblt, hx, c0, c1⟩ := atPair HV.out hb hkl
        obtain ⟨b2, off2, y, hA2, hblt2, hy, d0, d1⟩ := atPair HU.out hb hkm
        subst hA hA2
        have hst : samePD (l.drop k) (m.drop k) = (pairEq x y && samePD (l.drop (k + 1)) (m.drop (k + 1))) := by rw [List.drop_eq_getElem_cons hkl, List.drop_eq_getElem_cons hkm, samePD, hx.out, hy.out]
        rw [← hs.out] at hst
        replace hst := Lib.hid hst
        clear hs
        have HE := Lib.hid (fun W => pair_neq x y W)
        have HQ := Lib.hid (fun (o1 o2 : Operand) (xs ys : Array Value) W => pair_guard o1 o2 xs ys W)
        obtain ⟨be, hbe⟩ : ∃ be, pairEq x y = be := ⟨_, rfl⟩
        rw [hbe] at HE hst
        clear hbe
        go_wp2_with fail
        have HE' := HE.out
        have HQ' := HQ.out
        cases be
        · go_quiet (fail)
          go_wp2_with fail
          go_ret
          rw [hst.out]
          exact ⟨rfl, below_drewN hb _⟩
        · go_quiet (fail)
          go_wp2_with fail
          go_roundw
          case rel => exact ⟨k + 1, by omega, by go_num, hst, below_drewN hb _⟩
          case measure => simp [intOf]; omega
      · obtain rfl : k = l.length := by omega
        have he : Hid (samePD l m = true) := by show _ = _; rw [hs.out, List.drop_length, hlm.out, List.drop_length]; rfl
        clear hs
        go_wp2_with fail
        go_ret
        rw [he.out]
        exact ⟨rfl, hb⟩
  · have hlm' : ((l.length : Int) != m.length) = true := by simp; omega
    have hne : Hid (samePD l m = false) := samePD_len l m hlm
    go_wp2_with fail
    go_ret
    rw [hne.out]
    exact ⟨rfl, Below.refl _ _⟩


def apB (at' : Int) (x y : CellD) : Bool := !keqB y x || decide (at' < y.seq)
theorem view_step {at' : Int} {l : List CellD} {k : Nat} (hk : k < l.length) : viewD at' (l.take k) (l.drop k) = (if decide (l[k].seq ≤ at') && (l.take k).all (apB at' l[k]) && l[k].kind == 1 then [l[k]] else []) ++ viewD at' (l.take (k + 1)) (l.drop (k + 1)) := by
  rw [List.drop_eq_getElem_cons hk, take_next hk]
  rfl
theorem all_next' {α : Type} {p : α → Bool} {l : List α} {k : Nat} (hk : k < l.length) : (l.take (k + 1)).all p = ((l.take k).all p && p l[k]) := by
  rw [take_next hk, List.all_append]; simp
set_option maxRecDepth 100000 in
set_option maxHeartbeats 2000000 in
theorem View_calls (l : List CellD) (at' : Int) (v : Value) (w : World) (hv : RdT w 4 cellC v l) (hl : l.length ≤ 1000000) :
    Calls Try.prog 14 #[v, .int .i64 at'] w fun e w' => ∃ v', e = .returned v' ∧ w'.ownsRow w.heap.size 61 2 v' (viewD at' [] l).length ((viewD at' [] l).flatMap pairC) ∧ Below w.heap.size w w' := by
  have HV := Lib.hid hv
  obtain ⟨A, c, rfl, hnc, hcm⟩ := hv.len
  have hr0 : viewD at' [] l = [] ++ viewD at' (l.take 0) (l.drop 0) := by simp
  obtain ⟨r, hr⟩ : ∃ r, viewD at' [] l = r := ⟨_, rfl⟩
  rw [hr] at hr0 ⊢
  replace hr0 := Lib.hid hr0
  clear hr hv
  go_enter Try.func14, Try.ntmps14
  go_wp2_with fail
  go_loopw [5, 6] (fun ov iv wr => ∃ (k : Nat) (out : List CellD), k ≤ l.length ∧ iv = .int .i64 (k : Int) ∧ out.length ≤ k ∧ wr.ownsRow w.heap.size 61 2 ov out.length (out.flatMap pairC) ∧ Hid (r = out ++ viewD at' (l.take k) (l.drop k)) ∧ Hid (Below w.heap.size w wr))
    (fun _ iv _ => l.length - (intOf iv).toNat)
  case atStart => exact ⟨0, [], Nat.zero_le _, rfl, Nat.le_refl _, World.ownsRow_nil _ _ _ _, hr0, Below.refl _ _⟩
  case round =>
    clear hr0
    obtain ⟨k, out, hk, rfl, hol, hown, hres, hb⟩ := hrel
    obtain ⟨wo, rfl⟩ : ∃ wo : World, wo = wr := ⟨_, rfl⟩
    have hsz := hb.out.size
    by_cases hkl : k < l.length
    · have hkl' : (k : Int) < l.length := by omega
      have h0 : (0 : Int) ≤ k := by omega
      obtain ⟨b, off, x, hA, hblt, hx, c0, c1, c2, c3⟩ := atCell HV.out hb.out hkl
      subst hA
      have hst := hres.out
      rw [view_step hkl, hx.out, ← List.append_assoc] at hst
      replace hx := Lib.hid hx
      clear hres
      by_cases hgt : x.seq ≤ at'
      · have hgt' : ¬ x.seq > at' := by omega
        have hgt'' : ¬ at' < x.seq := by omega
        have hd : decide (x.seq ≤ at') = true := by simpa using hgt
        rw [hd, Bool.true_and] at hst
        replace hst := Lib.hid hst
        clear hd
        have KX : ∀ W, Below w.heap.size wo W → W.cell? ⟨b, off + k * 4, none⟩ = some (.string x.key) ∧ W.cell? ⟨b, off + k * 4 + 1, none⟩ = some (.int .i64 x.seq) ∧ W.cell? ⟨b, off + k * 4 + 2, none⟩ = some (.int .i64 x.kind) ∧ W.cell? ⟨b, off + k * 4 + 3, none⟩ = some (.string x.val) := fun W h => ⟨(below_at h hblt _).trans c0, (below_at h hblt _).trans c1, (below_at h hblt _).trans c2, (below_at h hblt _).trans c3⟩
        replace KX := Lib.hid KX
        go_wp2_with fail
        clear c0 c1 c2 c3
        go_loopw [7, 8] (fun fv jv wr => ∃ j : Nat, j ≤ k ∧ jv = .int .i64 (j : Int) ∧ fv = .bool ((l.take j).all (apB at' x)) ∧ Hid (∃ q, wr = wo.drewN q))
          (fun _ jv _ => k - (intOf jv).toNat)
        case atStart => exact ⟨0, Nat.zero_le _, rfl, rfl, ⟨0, rfl⟩⟩
        case round =>
          obtain ⟨j, hj, rfl, rfl, hq⟩ := hrel
          obtain ⟨q, rfl⟩ := hq.out
          obtain ⟨c0, c1, c2, c3⟩ := KX.out wo (Below.refl _ _)
          by_cases hjl : j < k
          · have hjl' : (j : Int) < k := by omega
            have hj0 : (0 : Int) ≤ j := by omega
            have hjn : (j : Int) < l.length := by omega
            obtain ⟨b2, off2, y, hA2, hbt2, hy, d0, d1, d2, d3⟩ := atCell HV.out hb.out (show j < l.length by omega)
            injection hA2 with hA2
            injection hA2 with e1 e2
            subst e1 e2
            have hnx := all_next' (p := apB at' x) (show j < l.length by omega)
            rw [hy.out] at hnx
            have hap : apB at' x y = (!(y.key.toList == x.key.toList) || decide (at' < y.seq)) := rfl
            obtain ⟨bf, hbf⟩ : ∃ bf, (l.take j).all (apB at' x) = bf := ⟨_, rfl⟩
            obtain ⟨b1, hb1⟩ : ∃ b1, (y.key.toList == x.key.toList) = b1 := ⟨_, rfl⟩
            obtain ⟨b2', hb2⟩ : ∃ b2', decide (at' < y.seq) = b2' := ⟨_, rfl⟩
            rw [hap, hb1, hb2, hbf] at hnx
            rw [hbf]
            clear hap hbf
            replace hnx := Lib.hid hnx
            replace hy := Lib.hid hy
            have hcs : bf = false ∨ (bf = true ∧ b1 = false) ∨ (bf = true ∧ b1 = true ∧ b2' = false) ∨ (bf = true ∧ b1 = true ∧ b2' = true) := by cases bf <;> cases b1 <;> cases b2' <;> simp
            rcases hcs with rfl | ⟨rfl, rfl⟩ | ⟨rfl, rfl, rfl⟩ | ⟨rfl, rfl, rfl⟩
            all_goals
              go_wp2_with fail
              go_quiet (fail)
              go_wp2_with fail
              go_roundw
              case rel => exact ⟨j + 1, by omega, by go_num, by rw [hnx.out]; rfl, ⟨q + nq, rfl⟩⟩
              case measure => simp [intOf]; omega
          · obtain rfl : j = k := by omega
            obtain ⟨bf, hbf⟩ : ∃ bf, (l.take j).all (apB at' x) = bf := ⟨_, rfl⟩
            rw [hbf]
            obtain ⟨bk, hbk⟩ : ∃ bk, (x.kind == 1) = bk := ⟨_, rfl⟩
            have hst2 := hst.out
            rw [hbf, hbk] at hst2
            clear hbf hst
            have hown2 : ∀ q, (wo.drewN q).ownsRow w.heap.size 61 2 u5 out.length (out.flatMap pairC) := fun _ => hown
            replace hown2 := Lib.hid hown2
            have hcs : bf = false ∨ (bf = true ∧ bk = false) ∨ (bf = true ∧ bk = true) := by cases bf <;> cases bk <;> simp
            rcases hcs with rfl | ⟨rfl, rfl⟩ | ⟨rfl, rfl⟩
            · rw [Bool.false_and, if_neg (by simp), List.append_nil] at hst2
              replace hst2 := Lib.hid hst2
              go_wp2_with fail
              go_roundw
              case rel => exact ⟨j + 1, out, by omega, by go_num, by omega, hown2.out _, hst2, below_drewN hb.out _⟩
              case measure => simp [intOf]; omega
            · rw [Bool.and_false, if_neg (by simp), List.append_nil] at hst2
              replace hst2 := Lib.hid hst2
              go_wp2_with fail
              go_roundw
              case rel => exact ⟨j + 1, out, by omega, by go_num, by omega, hown2.out _, hst2, below_drewN hb.out _⟩
              case measure => simp [intOf]; omega
            · rw [Bool.true_and, if_pos rfl] at hst2
              replace hst2 := Lib.hid hst2
              have KS : ∀ W, Below w.heap.size wo W → W.cell? ⟨b, off + j * 4, none⟩ = some (.string x.key) ∧ W.cell? ⟨b, off + j * 4 + 3, none⟩ = some (.string x.val) := fun W h => ⟨(KX.out W h).1, (KX.out W h).2.2.2⟩
              replace KS := Lib.hid KS
              have B1 : (out.length + 1) * 32 ≤ 140737488355328 := by omega
              go_wp2_with fail
              obtain ⟨wq, hwq⟩ : ∃ wq, wq = wo.drewN q := ⟨_, rfl⟩
              rw [← hwq]
              have hownq : wq.ownsRow w.heap.size 61 2 u5 out.length (out.flatMap pairC) := by rw [hwq]; exact hown2.out q
              have hbq : Below w.heap.size w wq := by rw [hwq]; exact below_drewN hb.out q
              have KQ : ∀ W, Below w.heap.size wq W → W.cell? ⟨b, off + j * 4, none⟩ = some (.string x.key) ∧ W.cell? ⟨b, off + j * 4 + 3, none⟩ = some (.string x.val) := fun W h => by
                rw [hwq] at h
                exact KS.out W ((below_drewN (Below.refl _ _) q).trans h)
              replace KQ := Lib.hid KQ
              have hszq := hbq.size
              have hjn : (j : Int) < l.length := by omega
              clear hwq c0 c1 c2 c3
              go_region_held3 (fun W => W.cell? ⟨b, off + j * 4, none⟩ = some (.string x.key) ∧ W.cell? ⟨b, off + j * 4 + 3, none⟩ = some (.string x.val))
                (first | (with_reducible exact KQ.out _ (Below.refl _ _).drew) | (with_reducible exact KQ.out _ ((Below.refl _ _).alloc hszq _).drew) | (with_reducible exact KQ.out _ hb1))
                ((refine step_app et_pair (.tmp 64) (.tmp 77) rfl rfl (hownq.alloc _) rfl rfl (src_blk (sz := 2) (cs := pairC x) (e := 61) (fr := (0, 0)) Try.underlying30 (new_at rfl) rfl (pairC_one _)) B1 ?_ ?_
                  · exact Nat.le_trans hszq (by simp)
                  intro v1 w1 hown1 hg1 hat1
                  have hb0 := below_app ((hbq.alloc hszq _).drew) hg1 (hownq.alloc _) (Nat.le_refl _) (Nat.le_trans hszq (by simp))
                  have hb1 : Below w.heap.size wq w1 := below_app (((Below.refl w.heap.size wq).alloc hszq _).drew) hg1 (hownq.alloc _) (Nat.le_refl _) (Nat.le_trans hszq (by simp))))
              go_wp2_with fail
              go_roundw
              case rel => exact ⟨j + 1, out ++ [x], by omega, by go_num, by simp; omega, own_cast hown1 (by simp) (by simp), hst2, hb0⟩
              case measure => simp [intOf]; omega
      · have hgt' : x.seq > at' := by omega
        have hd : decide (x.seq ≤ at') = false := by simpa using hgt
        rw [hd, Bool.false_and, Bool.false_and, if_neg (by simp), List.append_nil] at hst
        replace hst := Lib.hid hst
        clear hd
        go_wp2_with fail
        go_roundw
        case rel => exact ⟨k + 1, out, by omega, by go_num, by omega, hown, hst, hb⟩
        case measure => simp [intOf]; omega
    · obtain rfl : k = l.length := by omega
      have hfin : Hid (r = out) := by show _ = _; rw [hres.out, List.drop_length]; simp [viewD]
      obtain ⟨A9, c9, rfl, _, _⟩ : ∃ A9 c9, u5 = .slice A9 out.length c9 ∧ True ∧ True := by
        obtain ⟨A2, c2, hov, _⟩ := Rd.of_own hown
        exact ⟨A2, c2, hov, trivial, trivial⟩
      replace hown := Lib.hid hown
      go_wp2_with fail
      go_ret
      rw [hfin.out]
      exact ⟨_, rfl, hown.out, hb.out⟩
end Go.Proofs.Ytpemfmlonamikaa
