/- keep.keys: the versions of each key, as pieces of the list. -/
import Derived.Test.YticplbnnmajcpaaKeepA
namespace Go.Proofs.Yticplbnnmajcpaa
open Go Go.RowKit

theorem RdT.cut {α : Type} {w : World} {sz : Nat} {f : α → List Value} {A : Option Addr} {n c : Nat} {l : List α} (h : RdT w sz f (.slice A n c) l) (hf : ∀ a, (f a).length = sz) (k m : Nat) (hkm : k ≤ m) (hm : m ≤ l.length) :
    RdT w sz f (.slice (if c = k then A else A.map (·.add (k * sz))) (m - k) (c - k)) ((l.drop k).take (m - k)) := by
  obtain ⟨A', c', e, h1, h2, h3, h4⟩ := h
  injection e with e1 e2 e3
  subst e1 e2 e3
  have hl : ((l.drop k).take (m - k)).length = m - k := by simp; omega
  refine ⟨if c = k then A else A.map (·.add (k * sz)), c - k, by rw [hl], by rw [hl]; omega, by omega, by rw [flatMap_len hf], fun hn => ?_⟩
  rw [hl] at hn
  obtain ⟨ad, rfl, hc⟩ := h4 (by omega)
  rw [if_neg (by omega)]
  refine ⟨ad.add (k * sz), rfl, fun j u hu => ?_⟩
  rw [add_add']
  refine hc _ _ ?_
  have hj : j < (m - k) * sz := by
    have := (List.getElem?_eq_some_iff.1 hu).1
    rwa [flatMap_len hf, hl] at this
  have e : l.flatMap f = (l.take k).flatMap f ++ (((l.drop k).take (m - k)).flatMap f ++ ((l.drop k).drop (m - k)).flatMap f) := by
    rw [← List.flatMap_append, List.take_append_drop, ← List.flatMap_append, List.take_append_drop]
  rw [e, List.getElem?_append_right (by rw [flatMap_len hf]; simp; rw [Nat.min_eq_left (by omega)]; omega), List.getElem?_append_left (by rw [flatMap_len hf, flatMap_len hf, hl]; simp; rw [Nat.min_eq_left (by omega)]; omega)]
  rw [flatMap_len hf, List.length_take, Nat.min_eq_left (by omega), show k * sz + j - k * sz = j from by omega]
  exact hu

theorem src_cast {P : Program} {sz m : Nat} {tx : TypeId} {y y' : Value} {news : List Value} {w : World} (h : Src P sz tx y m news w) (e : y' = y) : Src P sz tx y' m news w := e ▸ h
theorem addz (A : Option Addr) : A.map (·.add 0) = A := by cases A <;> simp [Addr.add]
theorem et_cells : ElemT Try.prog 29 22 (.slice none 0 0) 1 24 := .mk' Try.underlying29 (by kernel_rfl) rfl (by decide) (by decide)
/-- Slices that read these lists. -/
def RdLs (w : World) (vs : List Value) (gs : List (List CellD)) : Prop := vs.length = gs.length ∧ ∀ (i : Nat) (v : Value) (g : List CellD), vs[i]? = some v → gs[i]? = some g → RdT w 4 cellC v g
theorem RdLs.nil (w : World) : RdLs w [] [] := ⟨rfl, fun i v g h => by simp at h⟩
theorem RdLs.snoc {w : World} {vs : List Value} {gs : List (List CellD)} {v : Value} {g : List CellD} (h : RdLs w vs gs) (hv : RdT w 4 cellC v g) : RdLs w (vs ++ [v]) (gs ++ [g]) := by
  refine ⟨by simp [h.1], fun i u k hu hk => ?_⟩
  by_cases hi : i < vs.length
  · rw [List.getElem?_append_left hi] at hu
    rw [List.getElem?_append_left (by rw [← h.1]; exact hi)] at hk
    exact h.2 i u k hu hk
  · rw [List.getElem?_append_right (by omega)] at hu
    rw [List.getElem?_append_right (by rw [← h.1]; omega), ← h.1] at hk
    rcases he : i - vs.length with _ | n
    · rw [he] at hu hk
      simp at hu hk
      subst hu hk; exact hv
    · rw [he] at hu; simp at hu
theorem RdLs.below {w w' : World} {vs : List Value} {gs : List (List CellD)} (h : RdLs w vs gs) (hb : Below w.heap.size w w') : RdLs w' vs gs := ⟨h.1, fun i v g hv hg => (h.2 i v g hv hg).below hb⟩
/-- How far the pieces have come. -/
structure KeysIn (w : World) (l : List CellD) (vs : List Value) (gs : List (List CellD)) (fr i : Nat) : Prop where
  rd : RdLs w vs gs
  eq : gs ++ grp (l.drop fr) = grp l
  same : ∀ (j : Nat) (x y : CellD), fr ≤ j → j ≤ i → l[j]? = some x → l[fr]? = some y → keqB y x = true
theorem KeysIn.cut {w : World} {l : List CellD} {vs : List Value} {gs : List (List CellD)} {fr i : Nat} (h : KeysIn w l vs gs fr i) (hf : fr ≤ i) (hi : i < l.length) (hd : ∀ (h : i + 1 < l.length), keqB (l[i]'hi) l[i + 1] = false) {v : Value} (hv : RdT w 4 cellC v ((l.drop fr).take (i + 1 - fr))) :
    KeysIn w l (vs ++ [v]) (gs ++ [(l.drop fr).take (i + 1 - fr)]) (i + 1) (i + 1) := by
  have hfl : fr < l.length := by omega
  have hsame : ∀ j (_ : fr ≤ j) (_ : j ≤ i), keqB (l[fr]'hfl) (l[j]'(by omega)) = true := fun j h1 h2 => h.same j _ _ h1 h2 (List.getElem?_eq_getElem (by omega)) (List.getElem?_eq_getElem hfl)
  refine ⟨h.rd.snoc hv, ?_, fun j x y h1 h2 hx hy => ?_⟩
  · have hc := grp_cut (l.drop fr) (i + 1 - fr) (by omega) (by simp; omega) (fun j hj => by
        simp only [List.getElem_drop, Nat.add_zero]
        exact hsame (fr + j) (by omega) (by omega)) (fun hlt => by
        simp only [List.getElem_drop, Nat.add_zero]
        have hlt' : i + 1 < l.length := by simp at hlt; omega
        have e : fr + (i + 1 - fr) = i + 1 := by omega
        simp only [e]
        have h1 := hsame i hf (Nat.le_refl _)
        have h2 := hd hlt'
        rw [← keqB_fun h1] at h2
        exact h2)
    rw [List.append_assoc, List.singleton_append, ← h.eq, hc, List.drop_drop]
    congr 3
    rw [show fr + (i + 1 - fr) = i + 1 from by omega]
  · obtain rfl : j = i + 1 := by omega
    rw [hx] at hy; injection hy with hy; subst hy; exact keqB_refl _
theorem KeysIn.go {w : World} {l : List CellD} {vs : List Value} {gs : List (List CellD)} {fr i : Nat} (h : KeysIn w l vs gs fr i) (hf : fr ≤ i) (hi : i + 1 < l.length) (he : keqB (l[i]'(by omega)) l[i + 1] = true) : KeysIn w l vs gs fr (i + 1) := by
  refine ⟨h.rd, h.eq, fun j x y h1 h2 hx hy => ?_⟩
  by_cases hj : j ≤ i
  · exact h.same j x y h1 hj hx hy
  · obtain rfl : j = i + 1 := by omega
    have h3 := h.same i _ y hf (Nat.le_refl _) (List.getElem?_eq_getElem (by omega)) hy
    rw [List.getElem?_eq_getElem hi] at hx
    injection hx with hx
    rw [← hx, keqB_fun h3]; exact he
def KeysPost (w : World) (l : List CellD) (e : Ending) (w' : World) : Prop := ∃ v' vs, e = .returned v' ∧ w'.ownsRow w.heap.size 22 1 v' vs.length vs ∧ RdLs w vs (grp l) ∧ Below w.heap.size w w'
theorem grp_nil : grp [] = [] := rfl
set_option maxRecDepth 100000 in
set_option maxHeartbeats 2000000 in
theorem keys_calls (l : List CellD) (v : Value) (w : World) (hv : RdT w 4 cellC v l) (hl : l.length ≤ 1000000) :
    Calls Try.prog 30 #[v] w (KeysPost w l) := by
  have HV := Lib.hid hv
  obtain ⟨A, c, rfl, hnc, hcm⟩ := hv.len
  have HC := Lib.hid (fun k m h1 h2 => RdT.cut (f := cellC) hv cellC_len k m h1 h2)
  clear hv
  go_enter Try.func30, Try.ntmps30
  go_wp2_with fail
  go_loopw [3, 4, 8] (fun ov fv iv wr => ∃ (i fr : Nat) (vs : List Value) (gs : List (List CellD)), i ≤ l.length ∧ fr ≤ i ∧ vs.length ≤ i ∧ iv = .int .i64 (i : Int) ∧ fv = .int .i64 (fr : Int) ∧ Hid (i = l.length → fr = i) ∧ wr.ownsRow w.heap.size 22 1 ov vs.length vs ∧ Hid (KeysIn w l vs gs fr i) ∧ Hid (Below w.heap.size w wr))
    (fun _ _ iv _ => l.length - (intOf iv).toNat)
  case atStart => exact ⟨0, 0, [], [], Nat.zero_le _, Nat.le_refl _, Nat.le_refl _, rfl, rfl, fun _ => rfl, World.ownsRow_nil _ _ _ _, ⟨RdLs.nil _, by simp, fun j x y _ h2 hx hy => by
    obtain rfl : j = 0 := by omega
    rw [hx] at hy; injection hy with hy; subst hy; exact keqB_refl _⟩, Below.refl _ _⟩
  case round =>
    obtain ⟨i, fr, vs, gs, hi, hfr, hvl, rfl, rfl, hend, hown, hk, hb⟩ := hrel
    have hsz := hb.out.size
    by_cases hil : i < l.length
    · have hil' : (i : Int) < l.length := by omega
      have h0 : (0 : Int) ≤ i := by omega
      obtain ⟨b, off, x, hA, hblt, hx, c0, c1, q2, c3⟩ := atCell HV.out hb.out hil
      subst hA
      have hw1 : IntKind.i64.wrap ((i : Int) + 1) = (i : Int) + 1 := IntWalk.i64_in _ (by omega)
      have hlast : i + 1 = l.length ∨ ∃ _ : i + 1 < l.length, True := by
        by_cases h : i + 1 = l.length
        · exact .inl h
        · exact .inr ⟨by omega, trivial⟩
      have hcutP : Hid (∀ (hd : ∀ (h : i + 1 < l.length), keqB (l[i]'hil) l[i + 1] = false), KeysIn w l (vs ++ [.slice (some ⟨b, off + fr * 4, none⟩) (i + 1 - fr) (c - fr)]) (gs ++ [(l.drop fr).take (i + 1 - fr)]) (i + 1) (i + 1)) := fun hd => by
        refine hk.out.cut hfr hil hd ?_
        have := HC.out fr (i + 1) (by omega) (by omega)
        rw [if_neg (by omega)] at this
        simpa [Addr.add_lit] using this
      have hfi : (fr : Int) ≤ i + 1 := by omega
      have hf0 : (0 : Int) ≤ fr := by omega
      have hck : ¬ c = fr := by omega
      have hk1 : (0 : Int) ≤ (i : Int) + 1 := by omega
      have hk2 : (i : Int) + 1 ≤ (c : Int) := by omega
      have hk3 : ((i : Int) + 1).toNat = i + 1 := by omega
      have hvb : (vs.length + 1) * 24 ≤ 140737488355328 := by omega
      have hown2 : ∀ o, (wr.drewN o).ownsRow w.heap.size 22 1 u3 vs.length vs := fun _ => hown
      rcases hlast with hlast | ⟨hlast, _⟩
      · have ht : ((i : Int) + 1 == l.length) = true := by simp; omega
        have hP := hcutP.out (fun h => absurd h (by omega))
        replace hP := Lib.hid hP
        replace hlast := Lib.hid hlast
        clear hcutP
        go_wp2_with fail
        go_quiet (fail)
        go_wp2_with (at_builtin; refine wpL_app et_cells (.tmp 32) (.tmp 38) rfl rfl ((hown2 _).alloc _) rfl rfl (src_one (u := .slice (some ⟨b, off + fr * 4, none⟩) (i + 1 - fr) (c - fr)) Try.underlying29 rfl rfl rfl) (by omega) (by simp; omega) ?_; intro v1 w1 hown1 hg1 hat1)
        go_roundw
        case rel => exact ⟨i + 1, i + 1, _, _, by omega, Nat.le_refl _, by simp; omega, by go_num, by go_num, fun _ => rfl, own_cast hown1 (by simp) (by simp), hP.out, below_app (below_drewN hb.out _ |>.alloc hsz _) hg1 ((hown2 _).alloc _) (Nat.le_refl _) (by simp; omega)⟩
        case measure => simp [intOf]; omega
      · obtain ⟨b', off', y, hA', hbt', hy, e0, e1, e2, e3⟩ := atCell HV.out hb.out hlast
        injection hA' with hA'
        injection hA' with hA1 hA2
        subst hA1 hA2
        have ht : ((i : Int) + 1 == l.length) = false := by simp; omega
        have hm1 : (i : Int) + 1 < l.length := by omega
        have hke : keqB (l[i]'hil) (l[i + 1]'hlast) = (y.key.toList == x.key.toList) := by rw [hx.out, hy.out, keqB_comm]; rfl
        obtain ⟨bk, hbk⟩ : ∃ bk, (y.key.toList == x.key.toList) = bk := ⟨_, rfl⟩
        rw [hbk] at hke
        have hy1 : Hid (bk = true → KeysIn w l vs gs fr (i + 1)) := fun h => hk.out.go hfr hlast (by rw [hke, h])
        have hy2 : Hid (bk = false → KeysIn w l (vs ++ [.slice (some ⟨b, off + fr * 4, none⟩) (i + 1 - fr) (c - fr)]) (gs ++ [(l.drop fr).take (i + 1 - fr)]) (i + 1) (i + 1)) := fun h => hcutP.out (fun _ => by rw [hke, h])
        have hne : Hid (i + 1 = l.length → False) := fun h => by omega
        clear hcutP hke
        replace hlast := Lib.hid hlast
        rcases bk with _ | _
        · have hP := Lib.hid (hy2.out rfl)
          go_wp2_with fail
          go_quiet (fail)
          go_wp2_with (at_builtin; refine wpL_app et_cells (.tmp 32) (.tmp 38) rfl rfl ((hown2 _).alloc _) rfl rfl (src_one (u := .slice (some ⟨b, off + fr * 4, none⟩) (i + 1 - fr) (c - fr)) Try.underlying29 rfl rfl rfl) (by omega) (by simp; omega) ?_; intro v1 w1 hown1 hg1 hat1)
          go_roundw
          case rel => exact ⟨i + 1, i + 1, _, _, by omega, Nat.le_refl _, by simp; omega, by go_num, by go_num, fun _ => rfl, own_cast hown1 (by simp) (by simp), hP.out, below_app (below_drewN hb.out _ |>.alloc hsz _) hg1 ((hown2 _).alloc _) (Nat.le_refl _) (by simp; omega)⟩
          case measure => simp [intOf]; omega
        · go_wp2_with fail
          go_quiet (fail)
          go_wp2_with fail
          go_roundw
          case rel => exact ⟨i + 1, fr, vs, gs, by omega, by omega, by omega, by go_num, rfl, fun h => (hne.out h).elim, hown2 _, hy1.out trivial, below_drewN hb.out _⟩
          case measure => simp [intOf]; omega
    · obtain rfl : i = l.length := by omega
      obtain rfl := hend.out rfl
      have hrd : Hid (RdLs w vs (grp l)) := by
        have hfin := hk.out.eq
        rw [List.drop_length, grp_nil, List.append_nil] at hfin
        have := hk.out.rd
        rw [hfin] at this
        exact this
      obtain ⟨A2, c2, rfl, _, _⟩ : ∃ A2 c2, u3 = .slice A2 vs.length c2 ∧ True ∧ True := by
        obtain ⟨A2, c2, hov, _⟩ := Rd.of_own hown
        exact ⟨A2, c2, hov, trivial, trivial⟩
      clear hk hend hvl hfr hi hil
      replace hown := Lib.hid hown
      go_wp2_with fail
      go_ret
      exact ⟨_, vs, rfl, hown.out, hrd.out, hb.out⟩
end Go.Proofs.Yticplbnnmajcpaa
