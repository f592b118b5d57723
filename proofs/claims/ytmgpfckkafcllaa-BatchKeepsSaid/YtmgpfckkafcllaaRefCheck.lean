/- assartref09.DocCheck, assartref09.Ops. -/
import Derived.Test.YtmgpfckkafcllaaRefRead
import Derived.Test.YtmgpfckkafcllaaBatch
namespace Go.Proofs.Ytmgpfckkafcllaa
open Go Go.RowKit

theorem any_take {p : OpD → Bool} {l : List OpD} {k : Nat} (hk : k < l.length) (h : (l.take k).any p = false) (h2 : p l[k] = false) : (l.take (k + 1)).any p = false := by
  rw [List.take_succ_eq_append_getElem hk, List.any_append, h]
  simp [h2]
theorem any_at {p : OpD → Bool} {l : List OpD} {k : Nat} (hk : k < l.length) (h2 : p l[k] = true) : l.any p = true := by
  rw [List.any_eq_true]
  exact ⟨_, List.getElem_mem hk, h2⟩

set_option maxRecDepth 100000 in
set_option maxHeartbeats 1000000 in
theorem DocCheck_calls (seq : Int) (l : List OpD) (v : Value) (w : World) (hv : RdT w 3 opC v l) :
    Calls Try.prog 25 #[.int .i64 seq, v] w fun e w' => e = .returned (.int .i64 (checkB seq l)) ∧ Below w.heap.size w w' := by
  have HV := Lib.hid hv
  obtain ⟨A, c, rfl, hnc, hcm, q1, q2⟩ := hv
  clear q1 q2
  unfold maxLen at hcm
  have HC : Hid (checkB seq l = if 200 < l.length ∨ l.any longB = true then 14
    else if l.length = 0 ∨ l.any oddB = true then 2
    else if seq < 1 ∨ 72057594037927935 - (l.length : Int) + 1 < seq then 1
    else 0) := rfl
  obtain ⟨r, hr⟩ : ∃ r, checkB seq l = r := ⟨_, rfl⟩
  rw [hr] at HC ⊢
  clear hr
  go_enter Try.func25, Try.ntmps25
  by_cases h1 : (200 : Int) < l.length
  · go_wp2_with fail
    go_ret
    exact ⟨ret_int (by rw [HC.out, if_pos (Or.inl (by omega))]), Below.refl _ _⟩
  · have hs : (l.length : Int) ≤ 200 := by omega
    go_wp2_with fail
    go_loop [5] (fun iv => ∃ k : Nat, k ≤ l.length ∧ iv = .int .i64 (k : Int) ∧ Hid ((l.take k).any longB = false)) (fun iv => l.length - (intOf iv).toNat)
    case atStart => exact ⟨0, Nat.zero_le _, rfl, rfl⟩
    case round =>
      obtain ⟨k, hk, rfl, hno⟩ := hrel
      by_cases hkl : k < l.length
      · have hkl' : (k : Int) < l.length := by omega
        have h0 : (0 : Int) ≤ k := by omega
        obtain ⟨b, off, c', hA, hblt, _, _, hcell⟩ := RdT.at HV.out opC_len (by omega) hkl
        injection hA with hA _ hcc
        subst hA hcc
        have c1 : w.cell? ⟨b, off + k * 3 + 1, none⟩ = some (.string l[k].key) := hcell 1 _ rfl
        have c2 : w.cell? ⟨b, off + k * 3 + 2, none⟩ = some (.string l[k].val) := hcell 2 _ rfl
        have HL : longB l[k] = (decide (64 < l[k].key.size) || decide (1000 < l[k].val.size)) := rfl
        replace HL := Lib.hid HL
        clear hcell
        obtain ⟨o, ho⟩ : ∃ o, o = l[k] := ⟨_, rfl⟩
        rw [← ho] at c1 c2 HL
        replace ho := Lib.hid ho
        by_cases h64 : 64 < o.key.size
        · have h64' : (o.key.size : Int) > 64 := by omega
          go_wp2_with fail
          go_ret
          exact ⟨ret_int (by rw [HC.out, if_pos (Or.inr (any_at hkl (by rw [← ho.out, HL.out]; simp; omega)))]), Below.refl _ _⟩
        · have h64' : ¬ (o.key.size : Int) > 64 := by omega
          by_cases h1000 : 1000 < o.val.size
          · have h1000' : (o.val.size : Int) > 1000 := by omega
            go_wp2_with fail
            go_ret
            exact ⟨ret_int (by rw [HC.out, if_pos (Or.inr (any_at hkl (by rw [← ho.out, HL.out]; simp; omega)))]), Below.refl _ _⟩
          · have h1000' : ¬ (o.val.size : Int) > 1000 := by omega
            have hn := Lib.hid (any_take hkl hno.out (by rw [← ho.out, HL.out]; simp; omega))
            go_wp2_with fail
            go_round
            case rel => exact ⟨k + 1, by omega, by go_num, hn⟩
            case measure => simp [intOf]; omega
      · obtain rfl : k = l.length := by omega
        have hno' : Hid (l.any longB = false) := by show _ = _; have := hno.out; rwa [List.take_length] at this
        clear hno
        go_wp2_with fail
        go_loopw [6] (fun iv wr => ∃ k : Nat, k ≤ l.length ∧ iv = .int .i64 (k : Int) ∧ Hid ((l.take k).any oddB = false) ∧ Below w.heap.size w wr) (fun iv _ => l.length - (intOf iv).toNat)
        case atStart => exact ⟨0, Nat.zero_le _, rfl, rfl, Below.refl _ _⟩
        case round =>
          obtain ⟨k, hk, rfl, hno, hb⟩ := hrel
          have hsz := hb.size
          by_cases hkl : k < l.length
          · have hkl' : (k : Int) < l.length := by omega
            have h0 : (0 : Int) ≤ k := by omega
            obtain ⟨b, off, c', hA, hblt, _, _, hcell⟩ := RdT.at HV.out opC_len (by omega) hkl
            injection hA with hA _ hcc
            subst hA hcc
            have hcw : ∀ j u, (opC l[k])[j]? = some u → wr.cell? ⟨b, off + k * 3 + j, none⟩ = some u := fun j u hu => (hb.cell (p := ⟨b, _, none⟩) hblt).trans (hcell j u hu)
            have c0 : wr.cell? ⟨b, off + k * 3, none⟩ = some (.int .i64 l[k].kind) := hcw 0 _ rfl
            have c1 : wr.cell? ⟨b, off + k * 3 + 1, none⟩ = some (.string l[k].key) := hcw 1 _ rfl
            have c2 : wr.cell? ⟨b, off + k * 3 + 2, none⟩ = some (.string l[k].val) := hcw 2 _ rfl
            have HL : oddB l[k] = (l[k].key.toList.isEmpty || (l[k].kind != 0 && l[k].kind != 1) || (l[k].kind == 0 && !l[k].val.toList.isEmpty)) := rfl
            replace HL := Lib.hid HL
            clear hcell hcw
            obtain ⟨o, ho⟩ : ∃ o, o = l[k] := ⟨_, rfl⟩
            rw [← ho] at c0 c1 c2 HL
            have hyes : oddB o = true → r = 2 := fun h => by
              rw [HC.out, if_neg (by simp [hno'.out]; omega), if_pos (Or.inr (any_at hkl (by rw [← ho]; exact h)))]
            have hnx : oddB o = false → (l.take (k + 1)).any oddB = false := fun h => any_take hkl hno.out (by rw [← ho]; exact h)
            replace hyes := Lib.hid hyes
            replace hnx := Lib.hid hnx
            clear ho hno
            clear HC hno'
            go_wp2_with fail
            all_goals first
              | (go_roundw
                 case rel => exact ⟨k + 1, by omega, by go_num, hnx.out (by clear hyes; rw [HL.out]; first | (simp [*]; done) | simp_all), hb.alloc hsz _⟩
                 case measure => simp [intOf]; omega)
              | (go_ret
                 exact ⟨ret_int (hyes.out (by clear hnx; rw [HL.out]; first | (simp [*]; done) | simp_all)).symm, hb.alloc hsz _⟩)
          · obtain rfl : k = l.length := by omega
            rw [List.take_length] at hno
            go_wp2_with fail
            all_goals
              have hn : ¬ 200 < l.length := by omega
              go_ret
              refine ⟨ret_int ?_, hb⟩
              rw [HC.out, hno'.out, hno.out]
              simp only [Bool.false_eq_true, or_false]
              clear HC hb hs
              repeat' split
              all_goals first
                | rfl
                | (exfalso; omega)
                | (exfalso; simp_all <;> omega)
end Go.Proofs.Ytmgpfckkafcllaa
