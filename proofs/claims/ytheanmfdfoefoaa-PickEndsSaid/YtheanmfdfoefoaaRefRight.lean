/- assartref17.Right. -/
import Derived.Test.YtheanmfdfoefoaaRefLev
namespace Go.Proofs.Ytheanmfdfoefoaa
open Go Go.RowKit

def edA (e : EdD) (gv nv : Value) : Array Value := #[.int .i64 e.log, .int .i64 e.next, .int .i64 e.seq, gv, nv]
set_option maxRecDepth 100000 in
set_option maxHeartbeats 1000000 in
theorem Right_no (e : EdD) (gv nv : Value) (w : World) (hg : RdT w 2 plC gv e.gone) (hn : RdT w 5 addC nv e.new) (hh : headB e = false) :
    Calls Try.prog 38 #[.agg #[.int .i64 e.log, .int .i64 e.next, .int .i64 e.seq, gv, nv]] w fun x w' => x = .returned (.bool (rightB e)) ∧ Below w.heap.size w w' := by
  have HR : Hid (rightB e = (headB e && e.gone.all plB && e.new.all addB)) := rfl
  generalize rightB e = r at *
  obtain ⟨A, c, rfl, hnc, hcm⟩ := hg.len
  obtain ⟨A2, c2, rfl, hnc2, hcm2⟩ := hn.len
  clear hg hn
  rw [hh] at HR
  have hr : r = false := by rw [HR.out]; rfl
  subst hr
  have hno : Hid (¬ ((-1 ≤ e.log ∧ e.log ≠ 0 ∧ e.log ≤ 1000000) ∧ (-1 ≤ e.next ∧ e.next ≠ 0 ∧ e.next ≤ 1000000) ∧ (-1 ≤ e.seq ∧ e.seq ≤ 72057594037927935) ∧ e.gone.length ≤ 1000 ∧ e.new.length ≤ 1000)) := fun h => by
    rw [(headB_iff e).2 h] at hh; cases hh
  clear hh HR
  go_enter Try.func38, Try.ntmps38
  go_wp2_with fail
  all_goals first
    | (go_ret; exact ⟨rfl, (Below.refl _ _).alloc (Nat.le_refl _) _⟩)
    | (exfalso; exact hno.out (by simp_all; omega))

set_option maxRecDepth 100000 in
set_option maxHeartbeats 1000000 in
theorem Right_calls (e : EdD) (gv nv : Value) (w : World) (hg : RdT w 2 plC gv e.gone) (hn : RdT w 5 addC nv e.new) :
    Calls Try.prog 38 #[.agg #[.int .i64 e.log, .int .i64 e.next, .int .i64 e.seq, gv, nv]] w fun x w' => x = .returned (.bool (rightB e)) ∧ Below w.heap.size w w' := by
  by_cases hh : headB e = true
  case neg => exact Right_no e _ _ w hg hn (by simpa using hh)
  have HR : Hid (rightB e = (headB e && e.gone.all plB && e.new.all addB)) := rfl
  generalize rightB e = r at *
  have HG := Lib.hid hg
  have HN := Lib.hid hn
  obtain ⟨A, c, rfl, hnc, hcm⟩ := hg.len
  obtain ⟨A2, c2, rfl, hnc2, hcm2⟩ := hn.len
  · obtain ⟨⟨a1, a2, a3⟩, ⟨a4, a5, a6⟩, ⟨a7, a8⟩, a9, a10⟩ := (headB_iff e).1 hh
    rw [hh] at HR
    clear hh
    have b2 : (e.log == 0) = false := by simpa using a2
    have b5 : (e.next == 0) = false := by simpa using a5
    have b9 : ¬ (e.gone.length : Int) > 1000 := by omega
    have b10 : ¬ (e.new.length : Int) > 1000 := by omega
    clear a2 a5
    go_enter Try.func38, Try.ntmps38
    go_wp2_with fail
    go_loopw [3] (fun iv wr => ∃ k : Nat, k ≤ e.gone.length ∧ iv = .int .i64 (k : Int) ∧ Hid ((e.gone.take k).all plB = true) ∧ Hid (wr.heap[w.heap.size]? = some (.cells (edA e (.slice A e.gone.length c) (.slice A2 e.new.length c2)) 62 (0, 0))) ∧ Below w.heap.size w wr)
      (fun iv _ => e.gone.length - (intOf iv).toNat)
    case atStart => exact ⟨0, Nat.zero_le _, rfl, by show _ = _; simp, heap_alloc_new w _, (Below.refl _ _).alloc (Nat.le_refl _) _⟩
    case round =>
      obtain ⟨k, hk, rfl, hall, hblk, hb⟩ := hrel
      have f3 : wr.cell? ⟨w.heap.size, 3, none⟩ = some (.slice A e.gone.length c) := by have := hblk.out; simp [World.cell?, this, edA]
      have f4 : wr.cell? ⟨w.heap.size, 4, none⟩ = some (.slice A2 e.new.length c2) := by have := hblk.out; simp [World.cell?, this, edA]
      by_cases hkl : k < e.gone.length
      · have hkl' : (k : Int) < e.gone.length := by omega
        have h0k : (0 : Int) ≤ k := by omega
        obtain ⟨b, off, x, hA, _, hx, c0, c1⟩ := atPl HG.out hb hkl
        subst hA
        have hstop : Hid (plB x = false → r = false) := fun h => by rw [HR.out, all_fail hkl (by rw [hx.out]; exact h)]; simp
        have hgo : Hid (plB x = true → (e.gone.take (k + 1)).all plB = true) := fun h => all_next hkl hall.out (by rw [hx.out]; exact h)
        have hpb : Hid (plB x = (decide (0 ≤ x.level) && decide (x.level < 4) && decide (1 ≤ x.file) && decide (x.file ≤ 999999))) := rfl
        clear a1 a3 a4 a6 a7 a8 hall
        go_wp2_with fail
        all_goals first
          | (go_roundw
             case rel => exact ⟨k + 1, by omega, by go_num, hgo.out (by rw [hpb.out]; simp; omega), hblk, hb⟩
             case measure => simp [intOf]; omega)
          | (go_ret
             exact ⟨ret_bool (hstop.out (by rw [hpb.out]; simp; omega)).symm, hb⟩)
      · obtain rfl : k = e.gone.length := by omega
        rw [List.take_length] at hall
        obtain ⟨wo, rfl⟩ : ∃ wo : World, wo = wr := ⟨_, rfl⟩
        go_wp2_with fail
        go_loopw [4] (fun iv wr => ∃ k : Nat, k ≤ e.new.length ∧ iv = .int .i64 (k : Int) ∧ Hid ((e.new.take k).all addB = true) ∧ Hid (wr.heap[w.heap.size]? = some (.cells (edA e (.slice A e.gone.length c) (.slice A2 e.new.length c2)) 62 (0, 0))) ∧ Below w.heap.size w wr)
          (fun iv _ => e.new.length - (intOf iv).toNat)
        case atStart => exact ⟨0, Nat.zero_le _, rfl, by show _ = _; simp, hblk, hb⟩
        case round =>
          clear hk hkl f3 f4 hblk hb
          obtain ⟨k, hk, rfl, halln, hblk, hb⟩ := hrel
          have f4 : wr.cell? ⟨w.heap.size, 4, none⟩ = some (.slice A2 e.new.length c2) := by have := hblk.out; simp [World.cell?, this, edA]
          have hsz := hb.size
          have hlt : w.heap.size < wr.heap.size := by
            rcases Nat.lt_or_ge w.heap.size wr.heap.size with h | h
            · exact h
            · have := hblk.out; rw [Array.getElem?_eq_none h] at this; cases this
          by_cases hkl : k < e.new.length
          · have hkl' : (k : Int) < e.new.length := by omega
            have h0k : (0 : Int) ≤ k := by omega
            have hkeep : ∀ W, Below wr.heap.size wr W → Hid (W.heap[w.heap.size]? = some (.cells (edA e (.slice A e.gone.length c) (.slice A2 e.new.length c2)) 62 (0, 0))) ∧ Below w.heap.size w W := fun W h => ⟨(h.block _ hlt).trans hblk.out, hb.trans (h.mono hsz)⟩
            replace hkeep := Lib.hid hkeep
            obtain ⟨b, off, x, hA, _, hx, q0, q1, q2, q3, q4⟩ := atAdd HN.out hb hkl
            subst hA
            have hstop : Hid (addB x = false → r = false) := fun h => by rw [HR.out, all_fail (l := e.new) hkl (by rw [hx.out]; exact h)]; simp
            have hgo : Hid (addB x = true → (e.new.take (k + 1)).all addB = true) := fun h => all_next hkl halln.out (by rw [hx.out]; exact h)
            have hpb : Hid (addB x = (decide (0 ≤ x.level) && decide (x.level < 4) && tableB x.t)) := rfl
            have KT := Lib.hid (Table_calls x.t wr)
            clear a1 a3 a4 a6 a7 a8 halln
            generalize tableB x.t = tb at *
            go_wp2_with ((with_reducible refine KT.out.mono ?_); rintro e w1 ⟨rfl, hb1⟩)
            all_goals first
              | (go_roundw
                 case rel => first | exact ⟨k + 1, by omega, by go_num, hgo.out (by rw [hpb.out]; cases tb <;> simp_all <;> omega), (hkeep.out _ hb1).1, (hkeep.out _ hb1).2⟩
                 case measure => simp [intOf]; omega)
              | (go_ret
                 first
                  | exact ⟨ret_bool (hstop.out (by rw [hpb.out]; simp; omega)).symm, hb⟩
                  | exact ⟨ret_bool (hstop.out (by rw [hpb.out]; cases tb <;> simp_all <;> omega)).symm, (hkeep.out _ hb1).2⟩)
          · obtain rfl : k = e.new.length := by omega
            rw [List.take_length] at halln
            go_wp2_with fail
            go_ret
            rw [HR.out, hall.out, halln.out]
            exact ⟨rfl, hb⟩
end Go.Proofs.Ytheanmfdfoefoaa
