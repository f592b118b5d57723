/- The same cells; is it a sorted list of versions? -/
import Derived.Test.YticplbnnmajcpaaVer
import Derived.Test.YticplbnnmajcpaaQuietB
namespace Go.Proofs.Yticplbnnmajcpaa
open Go Go.RowKit

theorem sameC_len : ∀ (l m : List CellD), l.length ≠ m.length → sameC l m = false := by
  intro l m h
  rcases hs : sameC l m with _ | _
  · rfl
  · rw [sameC_iff] at hs; subst hs; exact absurd rfl h
set_option maxRecDepth 100000 in
set_option maxHeartbeats 1000000 in
theorem Cells_calls (l m : List CellD) (v u : Value) (w : World) (hv : RdT w 4 cellC v l) (hu : RdT w 4 cellC u m) :
    Calls Try.prog 10 #[v, u] w fun e w' => e = .returned (.bool (sameC l m)) ∧ Below w.heap.size w w' := by
  have HV := Lib.hid hv
  have HU := Lib.hid hu
  obtain ⟨A, c, rfl, hnc, hcm⟩ := hv.len
  obtain ⟨A2, c2, rfl, hnc2, hcm2⟩ := hu.len
  go_enter Try.func10, Try.ntmps10
  by_cases hlm : l.length = m.length
  · have hlm' : ((l.length : Int) != m.length) = false := by simp; omega
    replace hlm := Lib.hid hlm
    go_wp2_with fail
    go_loopw [5] (fun iv wr => ∃ k : Nat, k ≤ l.length ∧ iv = .int .i64 (k : Int) ∧ Hid (sameC l m = sameC (l.drop k) (m.drop k)) ∧ Below w.heap.size w wr) (fun iv _ => l.length - (intOf iv).toNat)
    case atStart => exact ⟨0, Nat.zero_le _, rfl, rfl, Below.refl _ _⟩
    case round =>
      obtain ⟨k, hk, rfl, hs, hb⟩ := hrel
      have hsz := hb.size
      by_cases hkl : k < l.length
      · have hkl' : (k : Int) < l.length := by omega
        have hkm' : (k : Int) < m.length := by have := hlm.out; omega
        have hkm : k < m.length := by have := hlm.out; omega
        have h0 : (0 : Int) ≤ k := by omega
        obtain ⟨b, off, x, hA, hblt, hx, c0, c1, q2, c3⟩ := atCell HV.out hb hkl
        obtain ⟨b2, off2, y, hA2, hblt2, hy, d0, d1, d2, d3⟩ := atCell HU.out hb hkm
        subst hA hA2
        have hst : sameC (l.drop k) (m.drop k) = (cellEq x y && sameC (l.drop (k + 1)) (m.drop (k + 1))) := by rw [List.drop_eq_getElem_cons hkl, List.drop_eq_getElem_cons hkm, sameC, hx.out, hy.out]
        rw [← hs.out] at hst
        replace hst := Lib.hid hst
        clear hs
        have HE := Lib.hid (fun W => cell_neq x y W)
        have HQ := Lib.hid (fun (o1 o2 : Operand) (xs ys : Array Value) W => cell_guard o1 o2 xs ys W)
        obtain ⟨be, hbe⟩ : ∃ be, cellEq x y = be := ⟨_, rfl⟩
        rw [hbe] at HE hst
        clear hbe
        go_wp2_with fail
        have HE' := HE.out
        have HQ' := HQ.out
        cases be
        · go_quiet (fail)
          go_wp2_with fail
          go_ret
          rw [hst.out]
          exact ⟨rfl, below_drewN hb _⟩
        · go_quiet (fail)
          go_wp2_with fail
          go_roundw
          case rel => exact ⟨k + 1, by omega, by go_num, hst, below_drewN hb _⟩
          case measure => simp [intOf]; omega
      · obtain rfl : k = l.length := by omega
        have he : Hid (sameC l m = true) := by show _ = _; rw [hs.out, List.drop_length, hlm.out, List.drop_length]; rfl
        clear hs
        go_wp2_with fail
        go_ret
        rw [he.out]
        exact ⟨rfl, hb⟩
  · have hlm' : ((l.length : Int) != m.length) = true := by simp; omega
    have hne : Hid (sameC l m = false) := sameC_len l m hlm
    go_wp2_with fail
    go_ret
    rw [hne.out]
    exact ⟨rfl, Below.refl _ _⟩

/-! ### a sorted list of versions -/
theorem rightL_iff (l : List CellD) : rightL l = true ↔ (∀ j (h : j < l.length), rightV l[j] = true) ∧ ∀ j (h : j + 1 < l.length), lessV (l[j]'(by omega)) l[j + 1] = true := by
  unfold rightL
  rw [Bool.and_eq_true, sorted_iff, List.all_eq_true]
  exact ⟨fun ⟨h1, h2⟩ => ⟨fun j h => h1 _ (List.getElem_mem _), h2⟩, fun ⟨h1, h2⟩ => ⟨fun x hx => by obtain ⟨j, hj, rfl⟩ := List.mem_iff_getElem.1 hx; exact h1 j hj, h2⟩⟩
def rightTo (l : List CellD) (k : Nat) : Prop := (∀ j (h : j < l.length), j < k → rightV l[j] = true) ∧ ∀ j (h : j + 1 < l.length), j + 1 < k → lessV (l[j]'(by omega)) l[j + 1] = true
theorem rt_zero (l : List CellD) : rightTo l 0 := ⟨fun j _ h => absurd h (by omega), fun j _ h => absurd h (by omega)⟩
theorem rt_next {l : List CellD} {k : Nat} (h : rightTo l k) (hk : k < l.length) (h1 : rightV l[k] = true) (h2 : k = 0 ∨ ∃ _ : 0 < k, lessV (l[k - 1]'(by omega)) l[k] = true) : rightTo l (k + 1) := by
  refine ⟨fun j hj hjk => ?_, fun j hj hjk => ?_⟩
  · by_cases e : j = k
    · subst e; exact h1
    · exact h.1 j hj (by omega)
  · by_cases e : j + 1 = k
    · subst e
      rcases h2 with h2 | ⟨_, h2⟩
      · omega
      · exact h2
    · exact h.2 j hj (by omega)
theorem rt_all {l : List CellD} (h : rightTo l l.length) : rightL l = true := (rightL_iff l).2 ⟨fun j hj => h.1 j hj hj, fun j hj => h.2 j hj hj⟩
theorem rt_no1 {l : List CellD} {k : Nat} (hk : k < l.length) (h : rightV l[k] = false) : rightL l = false := by
  rw [← Bool.not_eq_true, rightL_iff]; intro h'; rw [h'.1 k hk] at h; cases h
theorem rt_no2 {l : List CellD} {k : Nat} (hk : k < l.length) (h0 : 0 < k) (h : lessV (l[k - 1]'(by omega)) l[k] = false) : rightL l = false := by
  rw [← Bool.not_eq_true, rightL_iff]; intro h'
  have := h'.2 (k - 1) (by omega)
  have e : k - 1 + 1 = k := by omega
  simp only [e] at this
  rw [this] at h; cases h
theorem cells4 {w : World} {b : Nat} {x0 x1 x2 x3 : Value} {t : TypeId} {fr : Nat × Nat} (h : w.heap[b]? = some (.cells #[x0, x1, x2, x3] t fr)) : w.cell? ⟨b, 0, none⟩ = some x0 ∧ w.cell? ⟨b, 1, none⟩ = some x1 ∧ w.cell? ⟨b, 2, none⟩ = some x2 ∧ w.cell? ⟨b, 3, none⟩ = some x3 := by
  refine ⟨?_, ?_, ?_, ?_⟩ <;> simp [World.cell?, h]
set_option maxRecDepth 100000 in
set_option maxHeartbeats 2000000 in
theorem right_calls (l : List CellD) (v : Value) (w : World) (hv : RdT w 4 cellC v l) :
    Calls Try.prog 28 #[v] w fun e w' => e = .returned (.bool (rightL l)) ∧ Below w.heap.size w w' := by
  have HV := Lib.hid hv
  obtain ⟨A, c, rfl, hnc, hcm⟩ := hv.len
  obtain ⟨rr, hrr⟩ : ∃ rr, rightL l = rr := ⟨_, rfl⟩
  rw [hrr]
  have HT := Lib.hid (fun h => hrr.symm.trans (rt_all (l := l) h))
  have HN1 := Lib.hid (fun k hk h => hrr.symm.trans (rt_no1 (l := l) (k := k) hk h))
  have HN2 := Lib.hid (fun k hk h0 h => hrr.symm.trans (rt_no2 (l := l) (k := k) hk h0 h))
  clear hrr hv
  go_enter Try.func28, Try.ntmps28
  go_wp2_with fail
  go_loopw [7] (fun iv wr => ∃ k : Nat, k ≤ l.length ∧ iv = .int .i64 (k : Int) ∧ Hid (rightTo l k) ∧ Hid (Below w.heap.size w wr)) (fun iv _ => l.length - (intOf iv).toNat)
  case atStart => exact ⟨0, Nat.zero_le _, rfl, rt_zero l, Below.refl _ _⟩
  case round =>
    obtain ⟨k, hk, rfl, hrt, hb⟩ := hrel
    have hsz := hb.out.size
    by_cases hkl : k < l.length
    · have hkl' : (k : Int) < l.length := by omega
      have h0 : (0 : Int) ≤ k := by omega
      obtain ⟨b, off, x, hA, hblt, hx, c0, c1, q2, c3⟩ := atCell HV.out hb.out hkl
      subst hA
      have hxl : l[k] = x := hx.out
      have KC := fun W => Check_calls x W
      have hrt1 : rightV x = true → (k = 0 ∨ ∃ _ : 0 < k, lessV (l[k - 1]'(by omega)) x = true) → rightTo l (k + 1) := fun h1 h2 => rt_next hrt.out hkl (by rw [hxl]; exact h1) (by rw [hxl]; exact h2)
      have hno1 : rightV x = false → rr = false := fun h => HN1.out k hkl (by rw [hxl]; exact h)
      have hno2 : ∀ h0 : 0 < k, lessV (l[k - 1]'(by omega)) x = false → rr = false := fun h0 h => HN2.out k hkl h0 (by rw [hxl]; exact h)
      clear hxl
      replace hrt1 := Lib.hid hrt1
      replace hno1 := Lib.hid hno1
      replace hno2 := Lib.hid hno2
      rcases hr : rightV x with _ | _
      · have he : (errV x != 0) = true := by unfold errV; rw [hr]; rfl
        generalize errV x = z at *
        replace KC := Lib.hid KC
        obtain rfl := hno1.out hr
        clear hr hno1 hno2 hrt1
        go_wp2_with fail
        obtain ⟨wa, hwa⟩ : ∃ wa, wa = wr.alloc (Obj.cells #[.string x.key, .int .i64 x.seq, .int .i64 x.kind, .string x.val] 35) := ⟨_, rfl⟩
        rw [← hwa]
        have hsa : wr.heap.size < wa.heap.size := by rw [hwa]; simp
        have hba : Hid (Below w.heap.size w wa) := by show Below _ _ _; rw [hwa]; exact hb.out.alloc hsz _
        obtain ⟨n1, n2, n3, n4⟩ := cells4 (show wa.heap[wr.heap.size]? = some (.cells #[.string x.key, .int .i64 x.seq, .int .i64 x.kind, .string x.val] 35 (0, 0)) by rw [hwa]; exact new_at rfl)
        have KB : ∀ W, InB wa W → W.cell? ⟨wr.heap.size, 0, none⟩ = some (.string x.key) ∧ W.cell? ⟨wr.heap.size, 1, none⟩ = some (.int .i64 x.seq) ∧ W.cell? ⟨wr.heap.size, 2, none⟩ = some (.int .i64 x.kind) := fun W h => ⟨(below_at h.below hsa _).trans n1, (below_at h.below hsa _).trans n2, (below_at h.below hsa _).trans n3⟩
        replace KB := Lib.hid KB
        clear n1 n2 n3 n4
        clear hwa c0 c1 q2 c3
        refine wp_region_inB (by kernel_rfl) (by kernel_rfl) ?_
        repeat (go_big_quiet_step ((first
          | (intro _; exact rfl)
          | (intro hW; go_at_call 53; exact InB.calls hW (KC.out _))
          | (intro hW; obtain ⟨k0, k1, k2⟩ := KB.out _ hW; go_simp; exact rfl))))
        refine wpQuiet_nil ?_
        intro w1 hb1
        replace hb1 := InB.below hb1
        go_wp2_with fail
        go_ret
        exact ⟨rfl, hba.out.trans (hb1.mono hba.out.size)⟩
      · have he : (errV x != 0) = false := by unfold errV; rw [hr]; rfl
        generalize errV x = z at *
        replace KC := Lib.hid KC
        by_cases hk0 : k = 0
        · have hnx : Hid (rightTo l (k + 1)) := hrt1.out hr (.inl hk0)
          have hkz : decide ((0 : Int) < k) = false := by simp; omega
          have hkz' : ¬ (k : Int) > 0 := by omega
          have hkz'' : decide (0 < k) = false := by simp; omega
          clear hr hno1 hno2 hrt1 hk0
          go_wp2_with fail
          obtain ⟨wa, hwa⟩ : ∃ wa, wa = wr.alloc (Obj.cells #[.string x.key, .int .i64 x.seq, .int .i64 x.kind, .string x.val] 35) := ⟨_, rfl⟩
          rw [← hwa]
          have hsa : wr.heap.size < wa.heap.size := by rw [hwa]; simp
          have hba : Hid (Below w.heap.size w wa) := by show Below _ _ _; rw [hwa]; exact hb.out.alloc hsz _
          obtain ⟨n1, n2, n3, n4⟩ := cells4 (show wa.heap[wr.heap.size]? = some (.cells #[.string x.key, .int .i64 x.seq, .int .i64 x.kind, .string x.val] 35 (0, 0)) by rw [hwa]; exact new_at rfl)
          have KB : ∀ W, InB wa W → W.cell? ⟨wr.heap.size, 0, none⟩ = some (.string x.key) ∧ W.cell? ⟨wr.heap.size, 1, none⟩ = some (.int .i64 x.seq) ∧ W.cell? ⟨wr.heap.size, 2, none⟩ = some (.int .i64 x.kind) := fun W h => ⟨(below_at h.below hsa _).trans n1, (below_at h.below hsa _).trans n2, (below_at h.below hsa _).trans n3⟩
          replace KB := Lib.hid KB
          clear n1 n2 n3 n4
          clear hwa c0 c1 q2 c3
          refine wp_region_inB (by kernel_rfl) (by kernel_rfl) ?_
          repeat (go_big_quiet_step ((first
            | (intro _; exact rfl)
            | (intro hW; go_at_call 53; exact InB.calls hW (KC.out _))
            | (intro hW; obtain ⟨k0, k1, k2⟩ := KB.out _ hW; go_simp; exact rfl))))
          refine wpQuiet_nil ?_
          intro w1 hb1
          replace hb1 := InB.below hb1
          go_wp2_with fail
          go_roundw
          case rel => exact ⟨k + 1, by omega, by go_num, hnx, hba.out.trans (hb1.mono hba.out.size)⟩
          case measure => simp [intOf]; omega
        · have hk0' : 0 < k := by omega
          have hkp : (k : Int) > 0 := by omega
          have hkp' : (0 : Int) < k := by omega
          have hkq : k - 1 < l.length := by omega
          obtain ⟨p, hp⟩ : ∃ p, l[k - 1] = p := ⟨_, rfl⟩
          obtain ⟨b', off', p', hA', hbt', hp', e0, e1, e2, e3⟩ := atCell HV.out hb.out hkq
          have hpp : p' = p := hp'.out.symm.trans hp
          subst hpp
          injection hA' with hA'
          injection hA' with hA1 hA2
          subst hA1 hA2
          have KL := fun W => Less_calls p' x W
          have hyes : lessV p' x = true → rightTo l (k + 1) := fun h => hrt1.out hr (.inr ⟨hk0', by rw [hp]; exact h⟩)
          have hno : lessV p' x = false → rr = false := fun h => hno2.out hk0' (by rw [hp]; exact h)
          clear hp hp' hr hno1 hno2 hrt1 hk0 hbt'
          replace hyes := Lib.hid hyes
          replace hno := Lib.hid hno
          have hbW : b < wr.heap.size := by omega
          have hm1 : (0 : Int) ≤ (k : Int) - 1 := by omega
          have hm2 : ((k : Int) - 1).toNat = k - 1 := by omega
          have hm3 : IntKind.i64.wrap ((k : Int) - 1) = (k : Int) - 1 := IntWalk.i64_in _ (by omega)
          have hm4 : (k : Int) - 1 < l.length := by omega
          have hm5 : (1 : Int) ≤ k := by omega
          obtain ⟨bl, hl⟩ : ∃ bl, lessV p' x = bl := ⟨_, rfl⟩
          rw [hl] at KL hyes hno
          replace KL := Lib.hid KL
          clear hl
          rcases bl with _ | _
          all_goals
            go_wp2_with fail
            obtain ⟨wa, hwa⟩ : ∃ wa, wa = wr.alloc (Obj.cells #[.string x.key, .int .i64 x.seq, .int .i64 x.kind, .string x.val] 35) := ⟨_, rfl⟩
            rw [← hwa]
            have hsa : wr.heap.size < wa.heap.size := by rw [hwa]; simp
            have hba : Hid (Below w.heap.size w wa) := by show Below _ _ _; rw [hwa]; exact hb.out.alloc hsz _
            obtain ⟨n1, n2, n3, n4⟩ := cells4 (show wa.heap[wr.heap.size]? = some (.cells #[.string x.key, .int .i64 x.seq, .int .i64 x.kind, .string x.val] 35 (0, 0)) by rw [hwa]; exact new_at rfl)
            have KB : ∀ W, InB wa W → W.cell? ⟨wr.heap.size, 0, none⟩ = some (.string x.key) ∧ W.cell? ⟨wr.heap.size, 1, none⟩ = some (.int .i64 x.seq) ∧ W.cell? ⟨wr.heap.size, 2, none⟩ = some (.int .i64 x.kind) := fun W h => ⟨(below_at h.below hsa _).trans n1, (below_at h.below hsa _).trans n2, (below_at h.below hsa _).trans n3⟩
            replace KB := Lib.hid KB
            clear n1 n2 n3 n4
            have KP : ∀ W, InB wa W → W.cell? ⟨b, off + (k - 1) * 4, none⟩ = some (.string p'.key) ∧ W.cell? ⟨b, off + (k - 1) * 4 + 1, none⟩ = some (.int .i64 p'.seq) ∧ W.cell? ⟨b, off + (k - 1) * 4 + 2, none⟩ = some (.int .i64 p'.kind) := fun W h => by
              have hW : Below wr.heap.size wr W := by rw [hwa] at h; exact (((Below.refl _ _).alloc (Nat.le_refl _) _).trans (h.below.mono (by simp)))
              exact ⟨(below_at hW hbW _).trans e0, (below_at hW hbW _).trans e1, (below_at hW hbW _).trans e2⟩
            replace KP := Lib.hid KP
            clear hwa c0 c1 q2 c3 e0 e1 e2 e3
            refine wp_region_inB (by kernel_rfl) (by kernel_rfl) ?_
            repeat (go_big_quiet_step ((first
              | (intro _; exact rfl)
              | (intro hW; go_at_call 53; exact InB.calls hW (KC.out _))
              | (intro hW; go_at_call 50; exact InB.calls hW (KL.out _))
              | (intro hW; obtain ⟨k0, k1, k2⟩ := KB.out _ hW; go_simp; exact rfl)
              | (intro hW; obtain ⟨k0, k1, k2⟩ := KP.out _ hW; go_simp; exact rfl))))
            refine wpQuiet_nil ?_
            intro w1 hb1
            replace hb1 := InB.below hb1
            go_wp2_with fail
          · obtain rfl := hno.out trivial
            go_ret
            exact ⟨rfl, hba.out.trans (hb1.mono hba.out.size)⟩
          · go_roundw
            case rel => exact ⟨k + 1, by omega, by go_num, hyes.out trivial, hba.out.trans (hb1.mono hba.out.size)⟩
            case measure => simp [intOf]; omega
    · obtain rfl : k = l.length := by omega
      have := HT.out hrt.out
      subst this
      go_wp2_with fail
      go_ret
      exact ⟨rfl, hb.out⟩
end Go.Proofs.Yticplbnnmajcpaa
