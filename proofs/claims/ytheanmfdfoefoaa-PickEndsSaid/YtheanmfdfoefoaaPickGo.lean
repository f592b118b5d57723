/- pick: Full, full, span, touching, job's closure; slices.Clone. -/
import Derived.Test.YtheanmfdfoefoaaPickConv
import Derived.Test.YtheanmfdfoefoaaPickDoc
import Derived.Deep.CutBlock
namespace Go.Proofs.Ytheanmfdfoefoaa
open Go Go.RowKit

set_option maxRecDepth 100000 in
set_option maxHeartbeats 600000 in
theorem touchP_calls (l : List MetaD) (a z : ByteArray) (v : Value) (w : World) (hv : RdT w 4 metaC v l) (hl : l.length ≤ 1000000) :
    Calls Try.prog 87 #[v, .string a, .string z] w fun e w' => ∃ v', e = .returned v' ∧ w'.ownsRow w.heap.size 51 4 v' (touchL l a z).length ((touchL l a z).flatMap metaC) ∧ Below w.heap.size w w' := by
  have HV := Lib.hid hv
  obtain ⟨A, c, rfl, hnc, hcm⟩ := hv.len
  go_enter Try.func87, Try.ntmps87
  go_wp2_with fail
  go_loopw [7, 12] (fun ov iv wr => ∃ k : Nat, k ≤ l.length ∧ iv = .int .i64 (k : Int) ∧ wr.ownsRow w.heap.size 51 4 ov (touchL (l.take k) a z).length ((touchL (l.take k) a z).flatMap metaC) ∧ Below w.heap.size w wr)
    (fun _ iv _ => l.length - (intOf iv).toNat)
  case atStart => exact ⟨0, Nat.zero_le _, rfl, World.ownsRow_nil _ _ _ _, Below.refl _ _⟩
  case round =>
    obtain ⟨k, hk, rfl, hown, hb⟩ := hrel
    have hsz := hb.size
    by_cases hkl : k < l.length
    · have hkl' : (k : Int) < l.length := by omega
      have h0 : (0 : Int) ≤ k := by omega
      obtain ⟨b, off, m, hA, hblt, hm, c0, c1, p2, c3⟩ := atMeta HV.out hb hkl
      subst hA
      have hw : touchL (l.take (k + 1)) a z = touchL (l.take k) a z ++ if touchB a z m then [m] else [] := by
        unfold touchL; rw [filter_next hkl, hm.out]
      have hle : (touchL (l.take k) a z).length ≤ k := by unfold touchL; exact Nat.le_trans (List.length_filter_le _ _) (by simp; omega)
      generalize touchL (l.take k) a z = acc at *
      have ht : touchB a z m = ((Op.bytesLess m.first.toList z.toList || m.first.toList == z.toList) && !Op.bytesLess m.last.toList a.toList) := rfl
      obtain ⟨b1, hb1⟩ : ∃ b1, (Op.bytesLess m.first.toList z.toList || m.first.toList == z.toList) = b1 := ⟨_, rfl⟩
      obtain ⟨b2, hb2⟩ : ∃ b2, Op.bytesLess m.last.toList a.toList = b2 := ⟨_, rfl⟩
      rw [hb1, hb2] at ht
      replace hw := Lib.hid hw
      replace ht := Lib.hid ht
      replace hm := Lib.hid hm
      by_cases hyes : b1 = true ∧ b2 = false
      · obtain ⟨rfl, rfl⟩ := hyes
        go_wp2_with (at_builtin; refine wpL_app et_emeta (.tmp 26) (.tmp 28) rfl rfl ((hown.alloc _).alloc _) rfl rfl (src_blk (sz := 4) (cs := metaC m) (e := 51) (fr := (0, 0)) Try.underlying30 (new_at (by simp)) rfl (metaC_one _)) (by omega) (by simp; omega) ?_; intro v1 w1 hown1 hg1 hat1)
        go_roundw
        case rel => exact ⟨k + 1, by omega, by go_num, own_cast hown1 (by rw [hw.out, ht.out]; simp) (by rw [hw.out, ht.out]; simp), below_app ((hb.alloc hsz _).alloc (by simp; omega) _) hg1 ((hown.alloc _).alloc _) (Nat.le_refl _) (by simp; omega)⟩
        case measure => simp [intOf]; omega
      · have hno : Hid (touchB a z m = false) := by
          show _ = _
          rw [ht.out]
          cases b1 <;> cases b2 <;> simp_all
        have hnb : b1 = false ∨ (b1 = true ∧ b2 = true) := by cases b1 <;> cases b2 <;> simp_all
        clear hyes
        rcases hnb with rfl | ⟨rfl, rfl⟩
        all_goals
          go_wp2_with fail
          go_roundw
          case rel => exact ⟨k + 1, by omega, by go_num, own_cast (hown.alloc _) (by rw [hw.out, hno.out]; simp) (by rw [hw.out, hno.out]; simp), hb.alloc hsz _⟩
          case measure => simp [intOf]; omega
    · obtain rfl : k = l.length := by omega
      rw [List.take_length] at hown
      obtain ⟨A2, c2, hov, _, _, _, _⟩ := Rd.of_own hown
      subst hov
      go_wp2_with fail
      go_ret
      exact ⟨_, rfl, hown, hb⟩

theorem minF_next {l : List MetaD} {a : ByteArray} {k : Nat} (hk : k < l.length) : minF a (l.take (k + 1)) = Lib.minS (minF a (l.take k)) l[k].first := by unfold minF; rw [fold_next hk]
theorem maxF_next {l : List MetaD} {a : ByteArray} {k : Nat} (hk : k < l.length) : maxF a (l.take (k + 1)) = Lib.maxS (maxF a (l.take k)) l[k].last := by unfold maxF; rw [fold_next hk]
set_option maxRecDepth 100000 in
set_option maxHeartbeats 400000 in
theorem span_calls (l : List MetaD) (v : Value) (w : World) (hv : RdT w 4 metaC v l) (hl : 0 < l.length) :
    Calls Try.prog 86 #[v] w fun e w' => e = .returned (.tuple #[.string (spanA l), .string (spanZ l)]) ∧ Below w.heap.size w w' := by
  have HV := Lib.hid hv
  obtain ⟨A, c, rfl, hnc, hcm⟩ := hv.len
  obtain ⟨b, off, m, hA, hblt, hm, c0, c1, p2, c3⟩ := atMeta hv (Below.refl _ _) hl
  have hhd : headM l = m := by cases l with
    | nil => simp at hl
    | cons x l => simpa [headM] using hm.out
  have e1 : spanA l = minF m.first l := by unfold spanA; rw [hhd]
  have e2 : spanZ l = maxF m.last l := by unfold spanZ; rw [hhd]
  rw [e1, e2]
  clear e1 e2
  replace hhd := Lib.hid hhd
  subst hA
  simp only [Nat.zero_mul, Nat.add_zero] at c0 c1 p2 c3
  have hmin := @Lib.run_min_strs Try.prog
  have hmax := @Lib.run_max_strs Try.prog
  have hl' : (0 : Int) < l.length := by omega
  go_enter Try.func86, Try.ntmps86
  go_wp2_with fail
  go_quiet (fail)
  go_wp2_with fail
  clear c0 c1 p2 c3
  go_loopw [4, 5, 18] (fun av zv iv wr => ∃ k : Nat, k ≤ l.length ∧ iv = .int .i64 (k : Int) ∧ av = .string (minF m.first (l.take k)) ∧ zv = .string (maxF m.last (l.take k)) ∧ Below w.heap.size w wr)
    (fun _ _ iv _ => l.length - (intOf iv).toNat)
  case atStart => exact ⟨0, Nat.zero_le _, rfl, rfl, rfl, below_drewN (Below.refl _ _) _⟩
  case round =>
    obtain ⟨k, hk, rfl, rfl, rfl, hb⟩ := hrel
    have hsz := hb.size
    by_cases hkl : k < l.length
    · have hkl' : (k : Int) < l.length := by omega
      have h0 : (0 : Int) ≤ k := by omega
      obtain ⟨b', off', x, hA, hblt', hx, c0, c1, p2, c3⟩ := atMeta HV.out hb hkl
      injection hA with hA
      injection hA with hA1 hA2
      subst hA1 hA2
      have n1 := minF_next (a := m.first) hkl
      have n2 := maxF_next (a := m.last) hkl
      rw [hx.out] at n1 n2
      replace n1 := Lib.hid n1
      replace n2 := Lib.hid n2
      generalize minF m.first (l.take k) = av at *
      generalize maxF m.last (l.take k) = zv at *
      go_wp2_with fail
      go_quiet (fail)
      go_wp2_with fail
      go_roundw
      case rel => exact ⟨k + 1, by omega, by go_num, by rw [n1.out], by rw [n2.out], below_drewN (hb.alloc hsz _) _⟩
      case measure => simp [intOf]; omega
    · obtain rfl : k = l.length := by omega
      rw [List.take_length]
      go_wp2_with fail
      go_ret2
      exact ⟨rfl, hb⟩

set_option maxRecDepth 100000 in
set_option maxHeartbeats 400000 in
theorem full_calls (l : List MetaD) (n limit : Int) (v : Value) (w : World) (hv : RdT w 4 metaC v l) (hl : l.length ≤ 1000000) (hs : ∀ m ∈ l, 1 ≤ m.size ∧ m.size ≤ 1048576) :
    Calls Try.prog 55 #[v, .int .i64 n, .int .i64 limit] w fun e w' => e = .returned (.bool (fullB l n limit)) ∧ Below w.heap.size w w' := by
  have HV := Lib.hid hv
  have HS := Lib.hid hs
  clear hs
  have HF : Hid (fullB l n limit = if n = 0 then decide (limit ≤ (l.length : Int)) else decide (limit < sizeL l)) := rfl
  generalize fullB l n limit = r at *
  obtain ⟨A, c, rfl, hnc, hcm⟩ := hv.len
  by_cases hn : n = 0
  · have hn' : (n == 0) = true := by simp [hn]
    rw [if_pos hn] at HF
    clear hn
    go_enter Try.func55, Try.ntmps55
    go_wp2
    go_ret
    exact ⟨ret_bool (by rw [HF.out]), Below.refl _ _⟩
  · have hn' : (n == 0) = false := by simpa using hn
    rw [if_neg hn] at HF
    clear hn
    go_enter Try.func55, Try.ntmps55
    go_wp2_with fail
    go_loopw [7, 18] (fun nv iv wr => ∃ k : Nat, k ≤ l.length ∧ iv = .int .i64 (k : Int) ∧ nv = .int .i64 (sizeL (l.take k)) ∧ Below w.heap.size w wr)
      (fun _ iv _ => l.length - (intOf iv).toNat)
    case atStart => exact ⟨0, Nat.zero_le _, rfl, rfl, Below.refl _ _⟩
    case round =>
      obtain ⟨k, hk, rfl, rfl, hb⟩ := hrel
      have hsz := hb.size
      by_cases hkl : k < l.length
      · have hkl' : (k : Int) < l.length := by omega
        have h0 : (0 : Int) ≤ k := by omega
        obtain ⟨b, off, m, hA, hblt, hm, c0, c1, p2, c3⟩ := atMeta HV.out hb hkl
        subst hA
        obtain ⟨m1, m2⟩ := HS.out m (by rw [← hm.out]; exact List.getElem_mem _)
        have hnx : sizeL (l.take (k + 1)) = sizeL (l.take k) + m.size := by unfold sizeL; rw [fold_next hkl, hm.out]
        obtain ⟨b1, b2⟩ := sizeL_bd (l.take k) (fun x hx => HS.out x (List.mem_of_mem_take hx))
        rw [List.length_take, Nat.min_eq_left hk] at b2
        generalize sizeL (l.take k) = q at *
        replace hnx := Lib.hid hnx
        go_wp2_with fail
        go_roundw
        case rel => exact ⟨k + 1, by omega, by go_num, by rw [hnx.out], hb.alloc hsz _⟩
        case measure => simp [intOf]; omega
      · obtain rfl : k = l.length := by omega
        rw [List.take_length]
        go_wp2_with fail
        go_ret
        exact ⟨ret_bool (by rw [HF.out]), hb⟩

theorem limB_iff' (l : LimD) : limB l = true ↔ 1 ≤ l.tables ∧ l.tables ≤ 100 ∧ 1 ≤ l.bytes ∧ l.bytes ≤ 1073741824 := by
  unfold limB; simp; omega
set_option maxRecDepth 100000 in
set_option maxHeartbeats 1000000 in
theorem Full_calls (l : LimD) (n : Int) (w : World) : Calls Try.prog 19 #[.agg #[.int .i64 l.tables, .int .i64 l.bytes], .int .i64 n] w fun e w' => e = .returned (.tuple #[.int .i64 (fullD l n).1, .int .i64 (fullD l n).2]) ∧ Below w.heap.size w w' := by
  have HF : Hid (fullD l n = if limB l = false ∨ n < 0 ∨ 4 ≤ n then (0, 1) else (if n = 0 then l.tables else if n = 1 then l.bytes else if n = 2 then 8 * l.bytes else 0, 0)) := rfl
  generalize fullD l n = r at *
  have hli := limB_iff' l
  by_cases hok : (1 ≤ l.tables ∧ l.tables ≤ 100 ∧ 1 ≤ l.bytes ∧ l.bytes ≤ 1073741824) ∧ 0 ≤ n ∧ n < 4
  · obtain ⟨⟨h1, h2, h3, h4⟩, n0, n4⟩ := hok
    rw [hli.2 ⟨h1, h2, h3, h4⟩] at HF
    clear hli
    obtain rfl | rfl | rfl | rfl : n = 0 ∨ n = 1 ∨ n = 2 ∨ n = 3 := by omega
    all_goals
      go_enter Try.func19, Try.ntmps19
      go_wp2
      go_ret2
      exact ⟨by rw [HF.out]; first | (simp; done) | (simp; omega), (Below.refl _ _).alloc (Nat.le_refl _) _⟩
  · have hno : Hid (limB l = false ∨ n < 0 ∨ 4 ≤ n) := by
      show _ ∨ _
      rcases hb : limB l with _ | _
      · exact .inl rfl
      · have := hli.1 hb; right; omega
    rw [if_pos hno.out] at HF
    replace hok := Lib.hid hok
    clear hli hno
    go_enter Try.func19, Try.ntmps19
    go_wp2
    all_goals first
      | (exfalso; apply hok.out; omega; done)
      | (go_ret2; exact ⟨by rw [HF.out]; rfl, (Below.refl _ _).alloc (Nat.le_refl _) _⟩)

set_option maxRecDepth 100000 in
set_option maxHeartbeats 400000 in
theorem cmp_calls (a b : MetaD) (w : World) (ha : 1 ≤ a.file ∧ a.file ≤ 999999) (hb : 1 ≤ b.file ∧ b.file ≤ 999999) :
    Calls Try.prog 85 #[.agg #[.int .i64 a.file, .int .i64 a.size, .string a.first, .string a.last], .agg #[.int .i64 b.file, .int .i64 b.size, .string b.first, .string b.last]] w fun e w' => e = .returned (.int .i64 (a.file - b.file)) ∧ Below w.heap.size w w' := by
  obtain ⟨a1, a2⟩ := ha
  obtain ⟨b1, b2⟩ := hb
  have hw : IntKind.i64.wrap (a.file - b.file) = a.file - b.file := IntWalk.i64_in _ (by omega)
  go_enter Try.func85, Try.ntmps85
  go_wp2
  go_ret
  exact ⟨rfl, ((Below.refl _ _).alloc (Nat.le_refl _) _).alloc (by simp) _⟩
end Go.Proofs.Ytheanmfdfoefoaa
