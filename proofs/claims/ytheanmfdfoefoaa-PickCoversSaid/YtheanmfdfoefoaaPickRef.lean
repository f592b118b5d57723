/- assartref19: Right, DocFull, size, touching. -/
import Derived.Test.YtheanmfdfoefoaaPickConv
import Derived.Test.YtheanmfdfoefoaaPickDoc
import Derived.Deep.CutBlock
namespace Go.Proofs.Ytheanmfdfoefoaa
open Go Go.RowKit

set_option maxRecDepth 100000 in
set_option maxHeartbeats 400000 in
theorem RightL_calls (l : LimD) (w : World) : Calls Try.prog 52 #[.agg #[.int .i64 l.tables, .int .i64 l.bytes]] w fun e w' => e = .returned (.bool (limB l)) ∧ Below w.heap.size w w' := by
  have HL : Hid (limB l = (decide (1 ≤ l.tables) && decide (l.tables ≤ 100) && decide (1 ≤ l.bytes) && decide (l.bytes ≤ 1073741824))) := rfl
  generalize limB l = r at *
  go_enter Try.func52, Try.ntmps52
  go_wp2
  all_goals (go_ret; exact ⟨ret_bool (by rw [HL.out]; clear HL; rw [Bool.eq_iff_iff]; first | (simp; done) | (simp; omega)), (Below.refl _ _).alloc (Nat.le_refl _) _⟩)

theorem cell_new (w : World) (cs : Array Value) (t : TypeId) (k : Nat) : (w.alloc (.cells cs t)).cell? ⟨w.heap.size, k, none⟩ = cs[k]? := by
  have e : (w.alloc (.cells cs t)).heap[w.heap.size]? = some (.cells cs t) := heap_alloc_new w _
  unfold World.cell?
  simp only [e]
  simp
theorem limB_iff (l : LimD) : limB l = true ↔ 1 ≤ l.tables ∧ l.tables ≤ 100 ∧ 1 ≤ l.bytes ∧ l.bytes ≤ 1073741824 := by
  unfold limB; simp; omega
set_option maxRecDepth 100000 in
set_option maxHeartbeats 400000 in
theorem DocFull_calls (l : LimD) (n : Int) (w : World) : Calls Try.prog 18 #[.agg #[.int .i64 l.tables, .int .i64 l.bytes], .int .i64 n] w fun e w' => e = .returned (.tuple #[.int .i64 (fullD l n).1, .int .i64 (fullD l n).2]) ∧ Below w.heap.size w w' := by
  have KL := Lib.hid (fun W => RightL_calls l W)
  have HF : Hid (fullD l n = if limB l = false ∨ n < 0 ∨ 4 ≤ n then (0, 1) else (if n = 0 then l.tables else if n = 1 then l.bytes else if n = 2 then 8 * l.bytes else 0, 0)) := rfl
  generalize fullD l n = r at *
  have hli := limB_iff l
  by_cases hb : limB l = true
  · rw [hb] at KL HF
    obtain ⟨h1, h2, h3, h4⟩ := hli.1 hb
    clear hli hb
    by_cases hn : 0 ≤ n ∧ n < 4
    · obtain ⟨n0, n4⟩ := hn
      obtain rfl | rfl | rfl | rfl : n = 0 ∨ n = 1 ∨ n = 2 ∨ n = 3 := by omega
      all_goals
        go_enter Try.func18, Try.ntmps18
        go_wp2_with ((with_reducible refine (KL.out _).mono ?_); rintro e w1 ⟨rfl, hb1⟩; have hz := hb1.size; have hc0 : w1.cell? ⟨w.heap.size, 0, none⟩ = some (.int .i64 l.tables) := (below_at hb1 (by simp) 0).trans (cell_new w _ _ _); have hc1 : w1.cell? ⟨w.heap.size, 1, none⟩ = some (.int .i64 l.bytes) := (below_at hb1 (by simp) 1).trans (cell_new w _ _ _))
        go_ret2
        exact ⟨by rw [HF.out]; simp, (((Below.refl _ _).alloc (Nat.le_refl _) _).trans (hb1.mono (by simp))).alloc (by simp at hz; omega) _⟩
    · have hnn : Hid (n < 0 ∨ 4 ≤ n) := by show _ ∨ _; omega
      rcases hnn.out with hlt | hge
      all_goals
        go_enter Try.func18, Try.ntmps18
        go_wp2_with ((with_reducible refine (KL.out _).mono ?_); rintro e w1 ⟨rfl, hb1⟩)
        go_ret2
        exact ⟨by rw [HF.out, if_pos (.inr hnn.out)]; rfl, ((Below.refl _ _).alloc (Nat.le_refl _) _).trans (hb1.mono (by simp))⟩
  · have hbf : limB l = false := by simpa using hb
    rw [hbf] at KL HF
    clear hli hb hbf
    go_enter Try.func18, Try.ntmps18
    go_wp2_with ((with_reducible refine (KL.out _).mono ?_); rintro e w1 ⟨rfl, hb1⟩)
    go_ret2
    exact ⟨by rw [HF.out, if_pos (.inl (by simp))]; rfl, ((Below.refl _ _).alloc (Nat.le_refl _) _).trans (hb1.mono (by simp))⟩

theorem sizeL_next {l : List MetaD} {k : Nat} (hk : k < l.length) : sizeL (l.take (k + 1)) = sizeL (l.take k) + l[k].size := by unfold sizeL; rw [fold_next hk]
set_option maxRecDepth 100000 in
set_option maxHeartbeats 400000 in
theorem size_calls (l : List MetaD) (v : Value) (w : World) (hv : RdT w 4 metaC v l) (hl : l.length ≤ 1000000) (hs : ∀ m ∈ l, 1 ≤ m.size ∧ m.size ≤ 1048576) :
    Calls Try.prog 53 #[v] w fun e w' => e = .returned (.int .i64 (sizeL l)) ∧ w = w' := by
  have HV := Lib.hid hv
  have HS := Lib.hid hs
  clear hs
  obtain ⟨A, c, rfl, hnc, hcm⟩ := hv.len
  go_enter Try.func53, Try.ntmps53
  go_wp2_with fail
  go_loop [3, 4] (fun nv iv => ∃ k : Nat, k ≤ l.length ∧ iv = .int .i64 (k : Int) ∧ nv = .int .i64 (sizeL (l.take k)))
    (fun _ iv => l.length - (intOf iv).toNat)
  case atStart => exact ⟨0, Nat.zero_le _, rfl, rfl⟩
  case round =>
    obtain ⟨k, hk, rfl, rfl⟩ := hrel
    by_cases hkl : k < l.length
    · have hkl' : (k : Int) < l.length := by omega
      have h0 : (0 : Int) ≤ k := by omega
      obtain ⟨b, off, m, hA, hblt, hm, c0, c1, p2, c3⟩ := atMeta HV.out (Below.refl _ _) hkl
      subst hA
      obtain ⟨m1, m2⟩ := HS.out m (by rw [← hm.out]; exact List.getElem_mem _)
      have hn := sizeL_next hkl
      rw [hm.out] at hn
      obtain ⟨b1, b2⟩ := sizeL_bd (l.take k) (fun x hx => HS.out x (List.mem_of_mem_take hx))
      rw [List.length_take, Nat.min_eq_left hk] at b2
      generalize sizeL (l.take k) = q at *
      replace hn := Lib.hid hn
      go_wp2_with fail
      go_round
      case rel => exact ⟨k + 1, by omega, by go_num, by rw [hn.out]⟩
      case measure => simp [intOf]; omega
    · obtain rfl : k = l.length := by omega
      rw [List.take_length]
      go_wp2_with fail
      go_ret
      exact ⟨rfl, rfl⟩

set_option maxRecDepth 100000 in
set_option maxHeartbeats 600000 in
theorem touchR_calls (l : List MetaD) (a z : ByteArray) (v : Value) (w : World) (hv : RdT w 4 metaC v l) (hl : l.length ≤ 1000000) :
    Calls Try.prog 54 #[v, .string a, .string z] w fun e w' => ∃ v', e = .returned v' ∧ w'.ownsRow w.heap.size 56 4 v' (touchL l a z).length ((touchL l a z).flatMap metaC) ∧ Below w.heap.size w w' := by
  have HV := Lib.hid hv
  obtain ⟨A, c, rfl, hnc, hcm⟩ := hv.len
  go_enter Try.func54, Try.ntmps54
  go_wp2_with fail
  go_loopw [7, 8] (fun ov iv wr => ∃ k : Nat, k ≤ l.length ∧ iv = .int .i64 (k : Int) ∧ wr.ownsRow w.heap.size 56 4 ov (touchL (l.take k) a z).length ((touchL (l.take k) a z).flatMap metaC) ∧ Below w.heap.size w wr)
    (fun _ iv _ => l.length - (intOf iv).toNat)
  case atStart => exact ⟨0, Nat.zero_le _, rfl, World.ownsRow_nil _ _ _ _, Below.refl _ _⟩
  case round =>
    obtain ⟨k, hk, rfl, hown, hb⟩ := hrel
    have hsz := hb.size
    by_cases hkl : k < l.length
    · have hkl' : (k : Int) < l.length := by omega
      have h0 : (0 : Int) ≤ k := by omega
      obtain ⟨b, off, m, hA, hblt, hm, c0, c1, p2, c3⟩ := atMeta HV.out hb hkl
      subst hA
      have hw : touchL (l.take (k + 1)) a z = touchL (l.take k) a z ++ if touchB a z m then [m] else [] := by
        unfold touchL; rw [filter_next hkl, hm.out]
      have hle : (touchL (l.take k) a z).length ≤ k := by unfold touchL; exact Nat.le_trans (List.length_filter_le _ _) (by simp; omega)
      generalize touchL (l.take k) a z = acc at *
      have ht : touchB a z m = ((Op.bytesLess m.first.toList z.toList || m.first.toList == z.toList) && !Op.bytesLess m.last.toList a.toList) := rfl
      obtain ⟨b1, hb1⟩ : ∃ b1, (Op.bytesLess m.first.toList z.toList || m.first.toList == z.toList) = b1 := ⟨_, rfl⟩
      obtain ⟨b2, hb2⟩ : ∃ b2, Op.bytesLess m.last.toList a.toList = b2 := ⟨_, rfl⟩
      rw [hb1, hb2] at ht
      replace hw := Lib.hid hw
      replace ht := Lib.hid ht
      replace hm := Lib.hid hm
      by_cases hyes : b1 = true ∧ b2 = false
      · obtain ⟨rfl, rfl⟩ := hyes
        go_wp2_with (at_builtin; refine wpL_app et_meta (.tmp 31) (.tmp 36) rfl rfl (hown.alloc _) rfl rfl (src_blk (sz := 4) (cs := metaC m) (e := 56) (fr := (0, 0)) Try.underlying25 (new_at rfl) rfl (metaC_one _)) (by omega) (by simp; omega) ?_; intro v1 w1 hown1 hg1 hat1)
        go_roundw
        case rel => exact ⟨k + 1, by omega, by go_num, own_cast hown1 (by rw [hw.out, ht.out]; simp) (by rw [hw.out, ht.out]; simp), below_app (hb.alloc hsz _) hg1 (hown.alloc _) (Nat.le_refl _) (by simp; omega)⟩
        case measure => simp [intOf]; omega
      · have hno : Hid (touchB a z m = false) := by
          show _ = _
          rw [ht.out]
          cases b1 <;> cases b2 <;> simp_all
        have hnb : b1 = false ∨ (b1 = true ∧ b2 = true) := by cases b1 <;> cases b2 <;> simp_all
        clear hyes
        rcases hnb with rfl | ⟨rfl, rfl⟩
        all_goals
          go_wp2_with fail
          go_roundw
          case rel => exact ⟨k + 1, by omega, by go_num, own_cast hown (by rw [hw.out, hno.out]; simp) (by rw [hw.out, hno.out]; simp), hb⟩
          case measure => simp [intOf]; omega
    · obtain rfl : k = l.length := by omega
      rw [List.take_length] at hown
      obtain ⟨A2, c2, hov, _, _, _, _⟩ := Rd.of_own hown
      subst hov
      go_wp2_with fail
      go_ret
      exact ⟨_, rfl, hown, hb⟩
end Go.Proofs.Ytheanmfdfoefoaa
