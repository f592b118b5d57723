/- assartlaw16.sort: its walk. -/
import Derived.Test.YticplbnnmajcpaaSortC
namespace Go.Proofs.Yticplbnnmajcpaa
open Go Go.RowKit

set_option maxRecDepth 100000 in
set_option maxHeartbeats 4000000 in
theorem sort_calls (l : List CellD) (v : Value) (w : World) (hv : RdT w 4 cellC v l) :
    Calls Try.prog 7 #[v] w fun e w' => ∃ v', e = .returned v' ∧ w'.ownsRow w.heap.size 35 4 v' (sortD l).length ((sortD l).flatMap cellC) ∧ Below w.heap.size w w' := by
  have HV := Lib.hid hv
  obtain ⟨A, c, rfl, hnc, hcm⟩ := hv.len
  have hr0 : Hid (sortD l = ((l.take 60).drop 0).foldl sortStep []) := by show _ = _; rw [List.drop_zero]; rfl
  obtain ⟨r, hr⟩ : ∃ r, sortD l = r := ⟨_, rfl⟩
  rw [hr] at hr0 ⊢
  clear hr hv
  have hL : (l.take 60).length = min 60 l.length := List.length_take
  have hL1 : (l.take 60).length ≤ 60 := by omega
  have hL2 : (l.take 60).length ≤ l.length := by omega
  have hL3 : Hid (∀ k, k < (l.take 60).length ↔ k < 60 ∧ k < l.length) := fun k => by omega
  clear hL
  go_enter Try.func7, Try.ntmps7
  go_wp2_with fail
  go_loopw [3, 4] (fun ov iv wr => ∃ (k : Nat) (out : List CellD), k ≤ (l.take 60).length ∧ iv = .int .i64 (k : Int) ∧ out.length ≤ k ∧ wr.ownsRow w.heap.size 35 4 ov out.length (out.flatMap cellC) ∧ Hid (r = ((l.take 60).drop k).foldl sortStep out) ∧ Hid (Below w.heap.size w wr))
    (fun _ iv _ => 60 - (intOf iv).toNat)
  case atStart => exact ⟨0, [], by omega, rfl, Nat.le_refl _, World.ownsRow_nil _ _ _ _, hr0, Below.refl _ _⟩
  case round =>
    clear hr0
    obtain ⟨k, out, hk, rfl, hol, hown, hfold, hb⟩ := hrel
    have hsz := hb.out.size
    obtain ⟨wo, rfl⟩ : ∃ wo : World, wo = wr := ⟨_, rfl⟩
    obtain ⟨Ao, co, rfl, hoc1, hoc2⟩ : ∃ Ao co, u3 = .slice Ao out.length co ∧ out.length ≤ co ∧ co ≤ 9223372036854775807 := by
      obtain ⟨A2, c2, hov, h1, h2, _⟩ := Rd.of_own hown
      exact ⟨A2, c2, hov, h1, h2⟩
    have hRO : Hid (RdT wo 4 cellC (.slice Ao out.length co) out) := Rd.of_own hown
    replace hown := Lib.hid hown
    by_cases hkL : k < (l.take 60).length
    · obtain ⟨hk60, hkl⟩ := (hL3.out k).1 hkL
      have hkl' : (k : Int) < l.length := by omega
      have hk60' : (k : Int) < 60 := by omega
      have h0 : (0 : Int) ≤ k := by omega
      obtain ⟨b, off, x, hA, hblt, hx, c0, c1, c2, c3⟩ := atCell HV.out hb.out hkl
      subst hA
      have hlx : (l.take 60)[k] = x := by rw [List.getElem_take]; exact hx.out
      have hnx : r = ((l.take 60).drop (k + 1)).foldl sortStep (sortStep out x) := by rw [hfold.out, List.drop_eq_getElem_cons hkL, hlx]; rfl
      have KX4 : ∀ W, Below wo.heap.size wo W → W.cell? ⟨b, off + k * 4, none⟩ = some (.string x.key) ∧ W.cell? ⟨b, off + k * 4 + 1, none⟩ = some (.int .i64 x.seq) ∧ W.cell? ⟨b, off + k * 4 + 2, none⟩ = some (.int .i64 x.kind) ∧ W.cell? ⟨b, off + k * 4 + 3, none⟩ = some (.string x.val) := fun W h => ⟨(below_at h (by omega) _).trans c0, (below_at h (by omega) _).trans c1, (below_at h (by omega) _).trans c2, (below_at h (by omega) _).trans c3⟩
      replace KX4 := Lib.hid KX4
      have KR := Lib.hid (fun W => RightV_calls x W)
      clear c0 c1 c2 c3 hlx hfold
      replace hnx := Lib.hid hnx
      replace hx := Lib.hid hx
      go_wp2_with fail
      go_loopw [5] (fun jv wr => ∃ j : Nat, j ≤ out.length ∧ jv = .int .i64 (j : Int) ∧ Hid ((out.take j).all (aheadC x) = true) ∧ Hid (Below wo.heap.size wo wr))
        (fun jv _ => out.length - (intOf jv).toNat)
      case atStart => exact ⟨0, Nat.zero_le _, rfl, by show _ = _; simp, Below.refl _ _⟩
      case round =>
        obtain ⟨j, hj, rfl, hall, hbj⟩ := hrel
        obtain ⟨wj, rfl⟩ : ∃ wj : World, wj = wr := ⟨_, rfl⟩
        have hszj := hbj.out.size
        have KX : ∀ W, InB wj W → W.cell? ⟨b, off + k * 4, none⟩ = some (.string x.key) ∧ W.cell? ⟨b, off + k * 4 + 1, none⟩ = some (.int .i64 x.seq) ∧ W.cell? ⟨b, off + k * 4 + 2, none⟩ = some (.int .i64 x.kind) := fun W h => by
          obtain ⟨q0, q1, q2, q3⟩ := KX4.out W (hbj.out.trans (h.below.mono hszj))
          exact ⟨q0, q1, q2⟩
        replace KX := Lib.hid KX
        by_cases hjl : j < out.length
        · have hjl' : (j : Int) < out.length := by omega
          have hj0 : (0 : Int) ≤ j := by omega
          obtain ⟨b2, off2, y, hA2, hbt2, hy, d0, d1, d2, d3⟩ := atCell hRO.out hbj.out hjl
          subst hA2
          have KY : ∀ W, InB wj W → W.cell? ⟨b2, off2 + j * 4, none⟩ = some (.string y.key) ∧ W.cell? ⟨b2, off2 + j * 4 + 1, none⟩ = some (.int .i64 y.seq) ∧ W.cell? ⟨b2, off2 + j * 4 + 2, none⟩ = some (.int .i64 y.kind) := fun W h => ⟨(below_at h.below (by omega) _).trans d0, (below_at h.below (by omega) _).trans d1, (below_at h.below (by omega) _).trans d2⟩
          have KL := fun W => LessR_calls y x W
          have hyes : lessV y x = true → (out.take (j + 1)).all (aheadC x) = true := fun h => all_next hjl hall.out (by rw [hy.out]; exact h)
          have hno : lessV y x = false → sortStep out x = if rightV x && !verEq y x then placeL out x else out := fun h => by
            have := step_at hall.out hjl (by rw [hy.out]; exact h)
            rw [hy.out] at this; exact this
          have HE := Lib.hid (fun W => ver_neq y x W)
          have HQ := Lib.hid (fun (o1 o2 : Operand) (xs ys : Array Value) W => ver_guard o1 o2 xs ys W)
          obtain ⟨bl, hbl2⟩ : ∃ bl, lessV y x = bl := ⟨_, rfl⟩
          rw [hbl2] at hyes hno KL
          clear hbl2 d0 d1 d2 d3
          replace KY := Lib.hid KY
          replace KL := Lib.hid KL
          replace hyes := Lib.hid hyes
          replace hno := Lib.hid hno
          replace hy := Lib.hid hy
          rcases bl with _ | _
          · have hst := hno.out rfl
            replace hst := Lib.hid hst
            clear hyes hno hall
            go_wp2_with fail
            refine wp_region_inB (by kernel_rfl) (by kernel_rfl) ?_
            repeat (go_big_quiet_step ((first
              | (intro _; exact rfl)
              | (intro hW; go_at_call 25; exact InB.calls hW (KL.out _))
              | (intro hW; obtain ⟨k0, k1, k2⟩ := KX.out _ hW; go_simp; exact rfl)
              | (intro hW; obtain ⟨k0, k1, k2⟩ := KY.out _ hW; go_simp; exact rfl))))
            refine wpQuiet_nil ?_
            intro w1 hb1
            replace hb1 := InB.below hb1
            go_wp2_with fail
            have hb1w := hbj.out.trans (hb1.mono hszj)
            have hs1 := hb1w.size
            have KX' : ∀ W, InB w1 W → W.cell? ⟨b, off + k * 4, none⟩ = some (.string x.key) ∧ W.cell? ⟨b, off + k * 4 + 1, none⟩ = some (.int .i64 x.seq) ∧ W.cell? ⟨b, off + k * 4 + 2, none⟩ = some (.int .i64 x.kind) := fun W h => KX.out W (hb1.trans (h.below.mono hb1.size))
            have KY' : ∀ W, InB w1 W → W.cell? ⟨b2, off2 + j * 4, none⟩ = some (.string y.key) ∧ W.cell? ⟨b2, off2 + j * 4 + 1, none⟩ = some (.int .i64 y.seq) ∧ W.cell? ⟨b2, off2 + j * 4 + 2, none⟩ = some (.int .i64 y.kind) := fun W h => KY.out W (hb1.trans (h.below.mono hb1.size))
            replace KX' := Lib.hid KX'
            replace KY' := Lib.hid KY'
            clear KX KY KL
            have hjn : ((j : Int) == out.length) = false := by rw [beq_eq_false_iff_ne]; omega
            obtain ⟨br, hbr⟩ : ∃ br, rightV x = br := ⟨_, rfl⟩
            obtain ⟨bv, hbv⟩ : ∃ bv, verEq y x = bv := ⟨_, rfl⟩
            rw [hbv] at HE
            rw [hbr] at KR
            have hst2 : sortStep out x = if br && !bv then placeL out x else out := by rw [← hbr, ← hbv]; exact hst.out
            replace hst2 := Lib.hid hst2
            clear hbr hbv hst
            have HE' := HE.out
            have HQ' := HQ.out
            replace hb1w := Lib.hid hb1w
            replace hb1 := Lib.hid hb1
            rcases br with _ | _
            case' true => rcases bv with _ | _
            all_goals
              refine wp_region_inB (by kernel_rfl) (by kernel_rfl) ?_
              repeat (go_big_quiet_step ((first
                | (intro _; exact rfl)
                | (intro hW; go_at_call 26; exact InB.calls hW (KR.out _))
                | (intro hW; obtain ⟨k0, k1, k2⟩ := KX'.out _ hW; go_simp; exact rfl)
                | (intro hW; obtain ⟨k0, k1, k2⟩ := KY'.out _ hW; go_simp; exact rfl)
                | (intro hW; go_simp; exact rfl))))
              refine wpQuiet_nil ?_
              intro w2 hb2
              replace hb2 := InB.below hb2
            · have hb2w := hb1w.out.trans (hb2.mono hs1)
              have hs2 := hb2w.size
              obtain ⟨k0, k1, k2, k3⟩ := KX4.out _ hb2w
              have hfin := hnx.out
              rw [show sortStep out x = placeL out x from hst2.out] at hfin
              replace hfin := Lib.hid hfin
              have KP := Place_calls out x (.slice (some ⟨b2, off2, none⟩) out.length co) w2 (hRO.out.below hb2w) (by omega)
              replace KP := Lib.hid KP
              replace hb2 := Lib.hid hb2
              go_wp2_with fail
              refine KP.out.mono ?_
              rintro e w3 ⟨v3, rfl, hown3, hb3⟩
              have hpl := place_len out x
              have hb3w := hb.out.trans ((hb2w.trans (hb3.mono hs2)).mono hsz)
              have hown3' := own_below hown3 (Below.refl _ _) (show w.heap.size ≤ w2.heap.size by omega)
              replace hb2w := Lib.hid hb2w
              replace hown3 := Lib.hid hown3
              replace hpl := Lib.hid hpl
              replace hb3 := Lib.hid hb3
              replace hb3w := Lib.hid hb3w
              replace hown3' := Lib.hid hown3'
              go_wp2_with fail
              go_roundw
              case rel => exact ⟨k + 1, placeL out x, by omega, by go_num, by have := hpl.out; omega, hown3'.out, hfin, hb3w⟩
              case measure => simp [intOf]; omega
            · have hb2w := hb1w.out.trans (hb2.mono hs1)
              have hfin := hnx.out
              rw [show sortStep out x = out from hst2.out] at hfin
              replace hfin := Lib.hid hfin
              have hown2 := own_below hown.out hb2w (Nat.le_refl _)
              replace hown2 := Lib.hid hown2
              have hb2x := hb.out.trans (hb2w.mono hsz)
              replace hb2w := Lib.hid hb2w
              replace hb2 := Lib.hid hb2
              replace hb2x := Lib.hid hb2x
              go_wp2_with fail
              go_roundw
              case rel => exact ⟨k + 1, out, by omega, by go_num, by omega, hown2.out, hfin, hb2x⟩
              case measure => simp [intOf]; omega
            · have hb2w := hb1w.out.trans (hb2.mono hs1)
              have hfin := hnx.out
              rw [show sortStep out x = out from hst2.out] at hfin
              replace hfin := Lib.hid hfin
              have hown2 := own_below hown.out hb2w (Nat.le_refl _)
              replace hown2 := Lib.hid hown2
              have hb2x := hb.out.trans (hb2w.mono hsz)
              replace hb2w := Lib.hid hb2w
              replace hb2 := Lib.hid hb2
              replace hb2x := Lib.hid hb2x
              go_wp2_with fail
              go_roundw
              case rel => exact ⟨k + 1, out, by omega, by go_num, by omega, hown2.out, hfin, hb2x⟩
              case measure => simp [intOf]; omega
          · have hnj := hyes.out rfl
            replace hnj := Lib.hid hnj
            clear hyes hno hall
            go_wp2_with fail
            refine wp_region_inB (by kernel_rfl) (by kernel_rfl) ?_
            repeat (go_big_quiet_step ((first
              | (intro _; exact rfl)
              | (intro hW; go_at_call 25; exact InB.calls hW (KL.out _))
              | (intro hW; obtain ⟨k0, k1, k2⟩ := KX.out _ hW; go_simp; exact rfl)
              | (intro hW; obtain ⟨k0, k1, k2⟩ := KY.out _ hW; go_simp; exact rfl))))
            refine wpQuiet_nil ?_
            intro w1 hb1
            replace hb1 := InB.below hb1
            go_wp2_with fail
            go_roundw
            case rel => exact ⟨j + 1, by omega, by go_num, hnj, hbj.out.trans (hb1.mono hszj)⟩
            case measure => simp [intOf]; omega
        · obtain rfl : j = out.length := by omega
          have hst : sortStep out x = if rightV x then placeL out x else out := step_end (by have := hall.out; rwa [List.take_length] at this)
          replace hst := Lib.hid hst
          clear hall
          have hjn0 : decide ((out.length : Int) < out.length) = false := by simp
          go_wp2_with fail
          refine wp_region_inB (by kernel_rfl) (by kernel_rfl) ?_
          repeat (go_big_quiet_step ((intro _; exact rfl)))
          refine wpQuiet_nil ?_
          intro w1 hb1
          replace hb1 := InB.below hb1
          go_wp2_with fail
          have hb1w := hbj.out.trans (hb1.mono hszj)
          have hs1 := hb1w.size
          have KX' : ∀ W, InB w1 W → W.cell? ⟨b, off + k * 4, none⟩ = some (.string x.key) ∧ W.cell? ⟨b, off + k * 4 + 1, none⟩ = some (.int .i64 x.seq) ∧ W.cell? ⟨b, off + k * 4 + 2, none⟩ = some (.int .i64 x.kind) := fun W h => KX.out W (hb1.trans (h.below.mono hb1.size))
          replace KX' := Lib.hid KX'
          clear KX
          have hjn : ((out.length : Int) == out.length) = true := by simp
          obtain ⟨br, hbr⟩ : ∃ br, rightV x = br := ⟨_, rfl⟩
          rw [hbr] at KR
          have hst2 : sortStep out x = if br then placeL out x else out := by rw [← hbr]; exact hst.out
          replace hst2 := Lib.hid hst2
          clear hbr hst
          replace hb1w := Lib.hid hb1w
          replace hb1 := Lib.hid hb1
          rcases br with _ | _
          all_goals
            refine wp_region_inB (by kernel_rfl) (by kernel_rfl) ?_
            repeat (go_big_quiet_step ((first
              | (intro _; exact rfl)
              | (intro hW; go_at_call 26; exact InB.calls hW (KR.out _))
              | (intro hW; obtain ⟨k0, k1, k2⟩ := KX'.out _ hW; go_simp; exact rfl))))
            refine wpQuiet_nil ?_
            intro w2 hb2
            replace hb2 := InB.below hb2
          · have hb2w := hb1w.out.trans (hb2.mono hs1)
            have hfin := hnx.out
            rw [show sortStep out x = out from hst2.out] at hfin
            replace hfin := Lib.hid hfin
            have hown2 := own_below hown.out hb2w (Nat.le_refl _)
            replace hown2 := Lib.hid hown2
            have hb2x := hb.out.trans (hb2w.mono hsz)
            replace hb2w := Lib.hid hb2w
            replace hb2 := Lib.hid hb2
            replace hb2x := Lib.hid hb2x
            go_wp2_with fail
            go_roundw
            case rel => exact ⟨k + 1, out, by omega, by go_num, by omega, hown2.out, hfin, hb2x⟩
            case measure => simp [intOf]; omega
          · have hb2w := hb1w.out.trans (hb2.mono hs1)
            have hs2 := hb2w.size
            obtain ⟨k0, k1, k2, k3⟩ := KX4.out _ hb2w
            have hfin := hnx.out
            rw [show sortStep out x = placeL out x from hst2.out] at hfin
            replace hfin := Lib.hid hfin
            have KP := Place_calls out x (.slice Ao out.length co) w2 (hRO.out.below hb2w) (by omega)
            replace KP := Lib.hid KP
            replace hb2 := Lib.hid hb2
            go_wp2_with fail
            refine KP.out.mono ?_
            rintro e w3 ⟨v3, rfl, hown3, hb3⟩
            have hpl := place_len out x
            have hb3w := hb.out.trans ((hb2w.trans (hb3.mono hs2)).mono hsz)
            have hown3' := own_below hown3 (Below.refl _ _) (show w.heap.size ≤ w2.heap.size by omega)
            replace hb2w := Lib.hid hb2w
            replace hown3 := Lib.hid hown3
            replace hpl := Lib.hid hpl
            replace hb3 := Lib.hid hb3
            replace hb3w := Lib.hid hb3w
            replace hown3' := Lib.hid hown3'
            go_wp2_with fail
            go_roundw
            case rel => exact ⟨k + 1, placeL out x, by omega, by go_num, by have := hpl.out; omega, hown3'.out, hfin, hb3w⟩
            case measure => simp [intOf]; omega
    · obtain rfl : k = (l.take 60).length := by omega
      have hfin : Hid (r = out) := by show _ = _; rw [hfold.out, List.drop_length]; rfl
      have hways := hL3.out (l.take 60).length
      by_cases h30 : (l.take 60).length < l.length
      case' pos =>
        have h30a : ((l.take 60).length : Int) < l.length := by omega
        have h30b : decide (((l.take 60).length : Int) < 60) = false := by simp; omega
        have h30c : ¬ ((l.take 60).length : Int) < 60 := by omega
      case' neg =>
        have h30a : ¬ ((l.take 60).length : Int) < l.length := by omega
        have h30b : True := trivial
        have h30c : True := trivial
      all_goals
        replace hways := Lib.hid hways
        clear h30
        generalize (l.take 60).length = kk at *
        go_wp2_with fail
        go_ret
        rw [hfin.out]
        exact ⟨_, rfl, hown.out, hb.out⟩
end Go.Proofs.Yticplbnnmajcpaa
