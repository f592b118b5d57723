/- assartref17: count, has. -/
import Derived.Test.YtheanmfdfoefoaaRefTab
namespace Go.Proofs.Ytheanmfdfoefoaa
open Go Go.RowKit

/-- The levels' slices read a state's tables. -/
def RdLv (w : World) (f : Nat → Value) (s : StD) : Prop := ∀ n, n < 4 → RdT w 4 metaC (f n) (s.lv n)
theorem RdLv.below {w w' : World} {f : Nat → Value} {s : StD} (h : RdLv w f s) (hb : Below w.heap.size w w') : RdLv w' f s := fun n hn => (h n hn).below hb
/-- A state's cells. -/
def stA (s : StD) (f : Nat → Value) : Array Value := #[.int .i64 s.log, .int .i64 s.next, .int .i64 s.seq, f 0, f 1, f 2, f 3]
theorem st_cell {w : World} {B : Nat} {t : TypeId} {s : StD} {f : Nat → Value} (h : w.heap[B]? = some (.cells (stA s f) t (0, 0))) {k : Nat} (hk : k < 4) : w.cell? ⟨B, 3 + k, none⟩ = some (f k) := by
  obtain rfl | rfl | rfl | rfl : k = 0 ∨ k = 1 ∨ k = 2 ∨ k = 3 := by omega
  all_goals simp [World.cell?, h, stA]
theorem st_free {w : World} {B : Nat} {t : TypeId} {s : StD} {f : Nat → Value} (h : w.heap[B]? = some (.cells (stA s f) t (0, 0))) (k : Nat) : w.frozen? ⟨B, k, none⟩ = false := by
  simp [World.frozen?, h]

def cntTo (s : StD) : Nat → Nat
  | 0 => 0
  | n + 1 => cntTo s n + (s.lv n).length
theorem cntTo_four (s : StD) : cntTo s 4 = countS s := by simp [cntTo, countS]

set_option maxRecDepth 100000 in
set_option maxHeartbeats 400000 in
theorem count_calls (s : StD) (f : Nat → Value) (w : World) (hf : RdLv w f s) (hl : ∀ n, n < 4 → (s.lv n).length ≤ 1000000) :
    Calls Try.prog 69 #[.agg #[.int .i64 s.log, .int .i64 s.next, .int .i64 s.seq, f 0, f 1, f 2, f 3]] w fun e w' => e = .returned (.int .i64 (countS s : Nat)) ∧ Below w.heap.size w w' := by
  have HF := Lib.hid hf
  have HL := Lib.hid hl
  clear hf hl
  go_enter Try.func69, Try.ntmps69
  go_wp2_with fail
  go_loopw [3, 4] (fun nv iv wr => ∃ k : Nat, k ≤ 4 ∧ iv = .int .i64 (k : Int) ∧ nv = .int .i64 (cntTo s k : Nat) ∧ cntTo s k ≤ k * 1000000 ∧ Hid (wr.heap[w.heap.size]? = some (.cells (stA s f) 28 (0, 0))) ∧ Below w.heap.size w wr)
    (fun _ iv _ => 4 - (intOf iv).toNat)
  case atStart => exact ⟨0, by omega, rfl, rfl, by simp [cntTo], heap_alloc_new w _, (Below.refl _ _).alloc (Nat.le_refl _) _⟩
  case round =>
    obtain ⟨k, hk, rfl, rfl, hc, hblk, hb⟩ := hrel
    by_cases hk4 : k < 4
    · have hk4' : (k : Int) < 4 := by omega
      have h0 : (0 : Int) ≤ k := by omega
      have cl := st_cell hblk.out hk4
      obtain ⟨A, c, hfk, hnc, hcm⟩ := (HF.out k hk4).len
      rw [hfk] at cl
      have hs : Hid (cntTo s (k + 1) = cntTo s k + (s.lv k).length) := rfl
      have hle := HL.out k hk4
      replace hfk := Lib.hid hfk
      generalize (s.lv k).length = q at *
      generalize cntTo s k = z at *
      go_wp2_with fail
      go_roundw
      case rel => exact ⟨k + 1, by omega, by go_num, by rw [hs.out]; go_num, by rw [hs.out]; omega, hblk, hb⟩
      case measure => simp [intOf]; omega
    · obtain rfl : k = 4 := by omega
      rw [cntTo_four]
      go_wp2_with fail
      go_ret
      exact ⟨rfl, hb⟩

theorem any_lv {s : StD} {f : Int} : hasB s f = false ↔ ∀ n, n < 4 → (s.lv n).any (·.file == f) = false := by
  constructor
  · intro h n hn
    simp only [hasB, Bool.or_eq_false_iff] at h
    obtain rfl | rfl | rfl | rfl : n = 0 ∨ n = 1 ∨ n = 2 ∨ n = 3 := by omega
    all_goals simp only [h]
  · intro h
    simp only [hasB, h 0 (by omega), h 1 (by omega), h 2 (by omega), h 3 (by omega), Bool.or_false]
theorem any_lv' {s : StD} {f : Int} {n : Nat} (hn : n < 4) (h : (s.lv n).any (·.file == f) = true) : hasB s f = true := by
  rcases hb : hasB s f with _ | _
  · rw [any_lv.1 hb n hn] at h; exact h
  · rfl

set_option maxRecDepth 100000 in
set_option maxHeartbeats 400000 in
theorem has_calls (s : StD) (fl : Int) (f : Nat → Value) (w : World) (hf : RdLv w f s) :
    Calls Try.prog 67 #[.agg #[.int .i64 s.log, .int .i64 s.next, .int .i64 s.seq, f 0, f 1, f 2, f 3], .int .i64 fl] w fun e w' => e = .returned (.bool (hasB s fl)) ∧ Below w.heap.size w w' := by
  have HF := Lib.hid hf
  clear hf
  go_enter Try.func67, Try.ntmps67
  go_wp2_with fail
  go_loopw [5, 6] (fun iv _ wr => ∃ k : Nat, k ≤ 4 ∧ iv = .int .i64 (k : Int) ∧ Hid (∀ n, n < k → (s.lv n).any (·.file == fl) = false) ∧ Hid (wr.heap[w.heap.size]? = some (.cells (stA s f) 28 (0, 0))) ∧ Below w.heap.size w wr)
    (fun iv _ _ => 4 - (intOf iv).toNat)
  case atStart => exact ⟨0, by omega, rfl, fun n hn => absurd hn (by omega), heap_alloc_new w _, (Below.refl _ _).alloc (Nat.le_refl _) _⟩
  case round =>
    obtain ⟨k, hk, rfl, hno, hblk, hb⟩ := hrel
    by_cases hk4 : k < 4
    · have hk4' : (k : Int) < 4 := by omega
      have h0 : (0 : Int) ≤ k := by omega
      obtain ⟨wo, rfl⟩ : ∃ wo : World, wo = wr := ⟨_, rfl⟩
      go_wp2_with fail
      go_loopw [6] (fun iv wr => ∃ j : Nat, j ≤ (s.lv k).length ∧ iv = .int .i64 (j : Int) ∧ Hid (((s.lv k).take j).any (·.file == fl) = false) ∧ Hid (wr.heap[w.heap.size]? = some (.cells (stA s f) 28 (0, 0))) ∧ Below w.heap.size w wr)
        (fun iv _ => (s.lv k).length - (intOf iv).toNat)
      case atStart => exact ⟨0, Nat.zero_le _, rfl, by show _ = _; simp, hblk, hb⟩
      case round =>
        obtain ⟨j, hj, rfl, hnj, hblk, hb⟩ := hrel
        have cl := st_cell hblk.out hk4
        have hL := HF.out k hk4
        obtain ⟨A, c, hfk, hnc, hcm⟩ := hL.len
        rw [hfk] at cl hL
        by_cases hjl : j < (s.lv k).length
        · have hjl' : (j : Int) < (s.lv k).length := by omega
          have h0j : (0 : Int) ≤ j := by omega
          obtain ⟨b, off, m, hA, hblt, hm, c0, c1, c2, c3⟩ := atMeta hL hb hjl
          subst hA
          have hstep : Hid ((m.file == fl) = false → ((s.lv k).take (j + 1)).any (·.file == fl) = false) := fun h => any_next hjl hnj.out (by rw [hm.out]; exact h)
          have hhit : Hid ((m.file == fl) = true → hasB s fl = true) := fun h => any_lv' hk4 (any_hit hjl (by rw [hm.out]; exact h))
          replace hfk := Lib.hid hfk
          replace hL := Lib.hid hL
          go_wp2_with fail
          · go_ret
            rw [hhit.out (by assumption)]
            exact ⟨rfl, hb⟩
          · go_roundw
            case rel => exact ⟨j + 1, by omega, by go_num, hstep.out (by assumption), hblk, hb⟩
            case measure => simp [intOf]; omega
        · obtain rfl : j = (s.lv k).length := by omega
          have hnk : Hid (∀ n, n < k + 1 → (s.lv n).any (·.file == fl) = false) := fun n hn => by
            rcases Nat.lt_or_ge n k with h | h
            · exact hno.out n h
            · obtain rfl : n = k := by omega
              have := hnj.out
              rwa [List.take_length] at this
          replace hfk := Lib.hid hfk
          replace hL := Lib.hid hL
          clear hno hnj
          go_wp2_with fail
          go_roundw
          case rel => exact ⟨k + 1, by omega, by go_num, hnk, hblk, hb⟩
          case measure => simp [intOf]; omega
    · obtain rfl : k = 4 := by omega
      go_wp2_with fail
      go_ret
      rw [any_lv.2 hno.out]
      exact ⟨rfl, hb⟩
end Go.Proofs.Ytheanmfdfoefoaa
