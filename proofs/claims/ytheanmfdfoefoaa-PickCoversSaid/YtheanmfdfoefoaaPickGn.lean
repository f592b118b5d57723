/- assartlaw19: grown, same. -/
import Derived.Test.YtheanmfdfoefoaaPickGr
import Derived.Test.YtheanmfdfoefoaaPickDN
namespace Go.Proofs.Ytheanmfdfoefoaa
open Go Go.RowKit

/-- What DocApply's answer is like. -/
def APost (w : World) (r : StD × Int) (x : Ending) (w' : World) : Prop :=
  ∃ g, x = .returned (.tuple #[.agg #[.int .i64 r.1.log, .int .i64 r.1.next, .int .i64 r.1.seq, g 0, g 1, g 2, g 3], .int .i64 r.2]) ∧ RdLv w' g r.1 ∧ Below w.heap.size w w'
theorem DocApply_one (s : StD) (a : AddD) (f : Nat → Value) (nv : Value) (w : World) (hf : RdLv w f s) (hn : RdT w 5 addC nv [a]) (hl : ∀ n, n < 4 → (s.lv n).length ≤ 100000) :
    Calls Try.prog 42 #[.agg #[.int .i64 s.log, .int .i64 s.next, .int .i64 s.seq, f 0, f 1, f 2, f 3], .agg #[.int .i64 (-1), .int .i64 (-1), .int .i64 (-1), .slice none 0 0, nv]] w (APost w (docApply s (oneE a))) :=
  (DocApply_calls s (oneE a) f (.slice none 0 0) nv w hf rd_nil hn hl).mono fun _ _ h => h
def growStep (s : StD) (a : AddD) : StD := if (docApply s (oneE a)).2 = 0 then (docApply s (oneE a)).1 else s
theorem growS_eq (l : List AddD) : growS l = (l.take 30).foldl growStep emptyS := rfl
def GrownPost (w : World) (s : StD) (e : Ending) (w' : World) : Prop :=
  ∃ g : Nat → Value, e = .returned (.agg #[.int .i64 s.log, .int .i64 s.next, .int .i64 s.seq, g 0, g 1, g 2, g 3]) ∧ RdLv w' g s ∧ Below w.heap.size w w'
set_option maxRecDepth 100000 in
set_option maxHeartbeats 2000000 in
theorem grown_calls (l : List AddD) (v : Value) (w : World) (hv : RdT w 5 addC v l) :
    Calls Try.prog 14 #[v] w (GrownPost w (growS l)) := by
  have HV := Lib.hid hv
  obtain ⟨A, c, rfl, hnc, hcm⟩ := hv.len
  have hgr := growS_eq l
  obtain ⟨r, hr⟩ : ∃ r, growS l = r := ⟨_, rfl⟩
  rw [hr] at hgr ⊢
  clear hr hv
  have hgr0 : Hid (r = ((l.take 30).drop 0).foldl growStep emptyS) := by show _ = _; rw [List.drop_zero]; exact hgr
  clear hgr
  have KE := Lib.hid (fun W => Empty_calls W)
  have hL : (l.take 30).length = min 30 l.length := List.length_take
  have hL1 : (l.take 30).length ≤ 30 := by omega
  have hL2 : (l.take 30).length ≤ l.length := by omega
  have hL3 : Hid (∀ k, k < (l.take 30).length ↔ k < 30 ∧ k < l.length) := fun k => by omega
  clear hL
  go_enter Try.func14, Try.ntmps14
  go_wp2_with fail
  refine (KE.out _).mono ?_
  rintro e w1 ⟨rfl, hb1⟩
  have hs1 := hb1.size
  simp only [World.size_alloc] at hs1
  have hR1 : Hid (w1.heap[w.heap.size]? = some (.cells (stA noS nilF) 28 (0, 0))) := (hb1.block _ (by simp)).trans (new_at rfl)
  have hB1 : Below w.heap.size w w1 := ((Below.refl _ _).alloc (Nat.le_refl _) _).trans (hb1.mono (by simp))
  clear KE hb1
  go_wp2_with fail
  go_loopw [4] (fun iv wr => ∃ (k : Nat) (s' : StD) (f' : Nat → Value), k ≤ (l.take 30).length ∧ iv = .int .i64 (k : Int) ∧ Hid (r = ((l.take 30).drop k).foldl growStep s') ∧ Hid (Gd s' k) ∧ Hid (wr.heap[w.heap.size]? = some (.cells (stA noS nilF) 28 (0, 0))) ∧
      Hid (wr.heap[w1.heap.size]? = some (.cells (stA s' f') 28 (0, 0))) ∧ Hid (RdLv wr f' s') ∧ Hid (Below w.heap.size w wr))
    (fun iv _ => 30 - (intOf iv).toNat)
  case atStart => exact ⟨0, emptyS, nilF, by omega, rfl, hgr0, empty_gd, new_old hR1.out, new_at rfl, fun n hn => rd_nil, hB1.alloc (by omega) _⟩
  case round =>
    clear hgr0 hR1 hB1
    obtain ⟨k, s', f', hk, rfl, hfold, hgd, hR, hS, hlv, hb⟩ := hrel
    have hsz := hb.out.size
    have hSl := lt_of_at hS.out
    by_cases hkL : k < (l.take 30).length
    · obtain ⟨hk30, hkl⟩ := (hL3.out k).1 hkL
      have hkl' : (k : Int) < l.length := by omega
      have hk30' : (k : Int) < 30 := by omega
      have h0 : (0 : Int) ≤ k := by omega
      obtain ⟨b, off, a, hA, hblt, ha, _, _, _, _, _⟩ := atAdd HV.out hb.out hkl
      subst hA
      have hla : (l.take 30)[k] = a := by rw [List.getElem_take]; exact ha.out
      have hnx : r = ((l.take 30).drop (k + 1)).foldl growStep (growStep s' a) := by rw [hfold.out, List.drop_eq_getElem_cons hkL, hla]; rfl
      have hcut : RdT wr 5 addC (.slice (some ⟨b, off + k * 5, none⟩) 1 (c - k)) [a] := by
        have h1 := RdT.cut (f := addC) ((HV.out).below hb.out) addC_len k (k + 1) (by omega) (by omega)
        rw [if_neg (by omega), show k + 1 - k = 1 from by omega, List.drop_eq_getElem_cons hkl, ha.out] at h1
        simpa [Addr.add_lit] using h1
      have KD := Lib.hid (fun W (h : Below wr.heap.size wr W) => DocApply_one s' a f' (.slice (some ⟨b, off + k * 5, none⟩) 1 (c - k)) W (hlv.out.below h) (RdT.below hcut h) (fun n hn => Nat.le_trans (hgd.out.few n hn) (by omega)))
      have hgs : growStep s' a = if (docApply s' (oneE a)).2 = 0 then (docApply s' (oneE a)).1 else s' := rfl
      have hgd2 : (docApply s' (oneE a)).2 = 0 → Gd (docApply s' (oneE a)).1 (k + 1) := fun h => with_gd hgd.out h
      obtain ⟨q, hq⟩ : ∃ q, docApply s' (oneE a) = q := ⟨_, rfl⟩
      rw [hq] at KD hgs hgd2
      rw [hgs] at hnx
      clear hq hgs
      replace hgd2 := Lib.hid hgd2
      obtain ⟨s0, s1, s2, s3, s4, s5, s6⟩ := stA_all hS.out
      have KS : ∀ W, Below wr.heap.size wr W → W.cell? ⟨w1.heap.size, 0, none⟩ = some (.int .i64 s'.log) ∧ W.cell? ⟨w1.heap.size, 1, none⟩ = some (.int .i64 s'.next) ∧ W.cell? ⟨w1.heap.size, 2, none⟩ = some (.int .i64 s'.seq) ∧ W.cell? ⟨w1.heap.size, 3, none⟩ = some (f' 0) ∧ W.cell? ⟨w1.heap.size, 4, none⟩ = some (f' 1) ∧ W.cell? ⟨w1.heap.size, 5, none⟩ = some (f' 2) ∧ W.cell? ⟨w1.heap.size, 6, none⟩ = some (f' 3) := fun W h =>
        ⟨(below_at h hSl _).trans s0, (below_at h hSl _).trans s1, (below_at h hSl _).trans s2, (below_at h hSl _).trans s3, (below_at h hSl _).trans s4, (below_at h hSl _).trans s5, (below_at h hSl _).trans s6⟩
      replace KS := Lib.hid KS
      replace hnx := Lib.hid hnx
      replace hla := Lib.hid hla
      replace hcut := Lib.hid hcut
      have hck : ¬ c = k := by omega
      have hwk : IntKind.i64.wrap ((k : Int) + 1) = (k : Int) + 1 := IntWalk.i64_in _ (by omega)
      have hk1 : (0 : Int) ≤ (k : Int) + 1 := by omega
      have hk2 : (k : Int) + 1 ≤ (c : Int) := by omega
      have hk3 : ((k : Int) + 1).toNat = k + 1 := by omega
      have hk4 : k + 1 - k = 1 := by omega
      have hkc : (k : Int) ≤ (k : Int) + 1 := by omega
      go_wp2_with fail
      go_region_held3 (fun W => W.cell? ⟨w1.heap.size, 0, none⟩ = some (.int .i64 s'.log) ∧ W.cell? ⟨w1.heap.size, 1, none⟩ = some (.int .i64 s'.next) ∧ W.cell? ⟨w1.heap.size, 2, none⟩ = some (.int .i64 s'.seq) ∧ W.cell? ⟨w1.heap.size, 3, none⟩ = some (f' 0) ∧ W.cell? ⟨w1.heap.size, 4, none⟩ = some (f' 1) ∧ W.cell? ⟨w1.heap.size, 5, none⟩ = some (f' 2) ∧ W.cell? ⟨w1.heap.size, 6, none⟩ = some (f' 3))
        ((first | (with_reducible exact hK7 _ _ _ _ _ _ _) | (with_reducible exact KS.out _ (Below.refl _ _).drew) | (with_reducible exact KS.out _ hb2) | (with_reducible exact KS.out _ ((Below.refl _ _).alloc (Nat.le_refl _) _).drew) | (with_reducible exact KS.out _ (hb2.alloc hz2 _)) | (with_reducible exact KS.out _ (below_set7 (hb2.alloc hz2 _) hz2))))
        ((go_at_call 42; refine (KD.out _ ?_).mono ?_
          first | exact (Below.refl _ _).drew | exact ((Below.refl _ _).alloc (Nat.le_refl _) _).drew
          rintro y w2 ⟨g, rfl, hg, hb2'⟩
          first | (have hb2 : Below wr.heap.size wr w2 := (Below.refl wr.heap.size wr).drew.trans hb2') | (have hb2 : Below wr.heap.size wr w2 := ((Below.refl wr.heap.size wr).alloc (Nat.le_refl _) (.cells (stA noS nilF) 28)).drew.trans (hb2'.mono (by simp)); have hT5 : w2.heap[wr.heap.size]? = some (.cells (stA noS nilF) 28 (0, 0)) := (hb2'.block _ (by simp)).trans (new_at rfl); obtain ⟨z0, z1, z2, z3, z4, z5, z6⟩ := stA_all hT5; simp only [noS, nilF] at z0 z1 z2 z3 z4 z5 z6; obtain ⟨x0, x1, x2, x3, x4, x5, x6⟩ := stA_free hT5; replace hT5 := Lib.hid hT5; have hK7 := fun a0 a1 a2 a3 a4 a5 a6 => KS.out _ (below_set7 (a0 := a0) (a1 := a1) (a2 := a2) (a3 := a3) (a4 := a4) (a5 := a5) (a6 := a6) hb2 (Nat.le_refl _)); have hK7' := Lib.hid hK7)
          have hz2 := hb2.size
          obtain ⟨B0, d0, eg0, _, _⟩ := (hg 0 (by omega)).len; obtain ⟨B1, d1, eg1, _, _⟩ := (hg 1 (by omega)).len; obtain ⟨B2, d2, eg2, _, _⟩ := (hg 2 (by omega)).len; obtain ⟨B3, d3, eg3, _, _⟩ := (hg 3 (by omega)).len
          rw [eg0, eg1, eg2, eg3]; replace eg0 := Lib.hid eg0; replace eg1 := Lib.hid eg1; replace eg2 := Lib.hid eg2; replace eg3 := Lib.hid eg3))
      -- both orders
      · clear s0 s1 s2 s3 s4 s5 s6
        obtain ⟨W5, hW5⟩ : ∃ W5, W5 = w2.alloc (Obj.cells #[.int .i64 q.1.log, .int .i64 q.1.next, .int .i64 q.1.seq, .slice B0 (q.1.lv 0).length d0, .slice B1 (q.1.lv 1).length d1, .slice B2 (q.1.lv 2).length d2, .slice B3 (q.1.lv 3).length d3] 28) := ⟨_, rfl⟩
        rw [← hW5]
        have hT : Hid (W5.heap[w2.heap.size]? = some (.cells (stA q.1 g) 28 (0, 0))) := by
          show _ = _; rw [hW5]; unfold stA; rw [eg0.out, eg1.out, eg2.out, eg3.out]; exact new_at rfl
        have hlv5 : Hid (RdLv W5 g q.1) := by rw [hW5]; exact hg.below ((Below.refl _ _).alloc (Nat.le_refl _) _)
        have hb5 : Below wr.heap.size wr W5 := by rw [hW5]; exact hb2.alloc hz2 _
        clear hW5
        replace hb2 := Lib.hid hb2
        obtain ⟨z0, z1, z2, z3, z4, z5, z6⟩ := stA_all hT.out
        rw [eg0.out] at z3
        rw [eg1.out] at z4
        rw [eg2.out] at z5
        rw [eg3.out] at z6
        have hS5 : Hid (W5.heap[w1.heap.size]? = some (.cells (stA s' f') 28 (0, 0))) := (hb5.block _ hSl).trans hS.out
        have hR5 : Hid (W5.heap[w.heap.size]? = some (.cells (stA noS nilF) 28 (0, 0))) := (hb5.block _ (by omega)).trans hR.out
        have hB5 := hb.out.trans (hb5.mono hsz)
        have hlvs := hlv.out.below hb5
        obtain ⟨C0, n0, m0, f0e⟩ := lv_sl hlv.out 0 (by omega)
        obtain ⟨C1, n1, m1, f1e⟩ := lv_sl hlv.out 1 (by omega)
        obtain ⟨C2, n2, m2, f2e⟩ := lv_sl hlv.out 2 (by omega)
        obtain ⟨C3, n3, m3, f3e⟩ := lv_sl hlv.out 3 (by omega)
        obtain ⟨s0, s1, s2, s3, s4, s5, s6⟩ := stA_all hS5.out
        rw [f0e] at s3
        rw [f1e] at s4
        rw [f2e] at s5
        rw [f3e] at s6
        clear f0e f1e f2e f3e
        obtain ⟨r0, r1, r2, r3, r4, r5, r6⟩ := stA_free hS5.out
        replace hb5 := Lib.hid hb5
        by_cases hq0 : q.2 = 0
        · have hq0' : (q.2 == 0) = true := by simp [hq0]
          have hgd3 : Hid (Gd q.1 (k + 1)) := hgd2.out hq0
          have hnx2 : Hid (r = ((l.take 30).drop (k + 1)).foldl growStep q.1) := by have := hnx.out; rw [if_pos hq0] at this; exact this
          clear hq0
          go_wp2_with fail
          go_roundw
          case rel =>
            refine ⟨k + 1, q.1, g, by omega, by go_num, hnx2, hgd3, ?_, ?_, ?_, ?_⟩
            · show _ = _; rw [set7_far (by omega)]; exact hR5.out
            · show _ = _; rw [← eg0.out, ← eg1.out, ← eg2.out, ← eg3.out]; exact set7_blk hS5.out
            · exact rdLv_set7 hS5.out (lv_sl hlv.out) hlv5.out
            · exact below_set7 hB5 (by omega)
          case measure => simp [intOf]; omega
        · have hq0' : (q.2 == 0) = false := by simpa using hq0
          have hgd3 : Hid (Gd s' (k + 1)) := gd_mono hgd.out (by omega)
          have hnx2 : Hid (r = ((l.take 30).drop (k + 1)).foldl growStep s') := by have := hnx.out; rw [if_neg hq0] at this; exact this
          clear hq0
          go_wp2_with fail
          go_roundw
          case rel => exact ⟨k + 1, s', f', by omega, by go_num, hnx2, hgd3, hR5, hS5, hlvs, hB5⟩
          case measure => simp [intOf]; omega
      · clear s0 s1 s2 s3 s4 s5 s6 hK7 z0 z1 z2 z3 z4 z5 z6 x0 x1 x2 x3 x4 x5 x6
        obtain ⟨W5, hW5⟩ : ∃ W5, W5 = (((((((w2.setCell ⟨wr.heap.size, 0, none⟩ (.int .i64 q.1.log)).setCell ⟨wr.heap.size, 1, none⟩ (.int .i64 q.1.next)).setCell ⟨wr.heap.size, 2, none⟩ (.int .i64 q.1.seq)).setCell ⟨wr.heap.size, 3, none⟩ (.slice B0 (q.1.lv 0).length d0)).setCell ⟨wr.heap.size, 4, none⟩ (.slice B1 (q.1.lv 1).length d1)).setCell ⟨wr.heap.size, 5, none⟩ (.slice B2 (q.1.lv 2).length d2)).setCell ⟨wr.heap.size, 6, none⟩ (.slice B3 (q.1.lv 3).length d3)) := ⟨_, rfl⟩
        rw [← hW5]
        have hT : Hid (W5.heap[wr.heap.size]? = some (.cells (stA q.1 g) 28 (0, 0))) := by
          show _ = _; rw [hW5, ← eg0.out, ← eg1.out, ← eg2.out, ← eg3.out]; exact set7_blk hT5.out
        have hlv5 : Hid (RdLv W5 g q.1) := by rw [hW5]; exact rdLv_set7 hT5.out (fun n _ => ⟨none, 0, 0, rfl⟩) hg
        have hb5 : Below wr.heap.size wr W5 := by rw [hW5]; exact below_set7 hb2 (Nat.le_refl _)
        clear hW5
        replace hb2 := Lib.hid hb2
        obtain ⟨z0, z1, z2, z3, z4, z5, z6⟩ := stA_all hT.out
        rw [eg0.out] at z3
        rw [eg1.out] at z4
        rw [eg2.out] at z5
        rw [eg3.out] at z6
        have hS5 : Hid (W5.heap[w1.heap.size]? = some (.cells (stA s' f') 28 (0, 0))) := (hb5.block _ hSl).trans hS.out
        have hR5 : Hid (W5.heap[w.heap.size]? = some (.cells (stA noS nilF) 28 (0, 0))) := (hb5.block _ (by omega)).trans hR.out
        have hB5 := hb.out.trans (hb5.mono hsz)
        have hlvs := hlv.out.below hb5
        obtain ⟨C0, n0, m0, f0e⟩ := lv_sl hlv.out 0 (by omega)
        obtain ⟨C1, n1, m1, f1e⟩ := lv_sl hlv.out 1 (by omega)
        obtain ⟨C2, n2, m2, f2e⟩ := lv_sl hlv.out 2 (by omega)
        obtain ⟨C3, n3, m3, f3e⟩ := lv_sl hlv.out 3 (by omega)
        obtain ⟨s0, s1, s2, s3, s4, s5, s6⟩ := stA_all hS5.out
        rw [f0e] at s3
        rw [f1e] at s4
        rw [f2e] at s5
        rw [f3e] at s6
        clear f0e f1e f2e f3e
        obtain ⟨r0, r1, r2, r3, r4, r5, r6⟩ := stA_free hS5.out
        replace hb5 := Lib.hid hb5
        by_cases hq0 : q.2 = 0
        · have hq0' : (q.2 == 0) = true := by simp [hq0]
          have hgd3 : Hid (Gd q.1 (k + 1)) := hgd2.out hq0
          have hnx2 : Hid (r = ((l.take 30).drop (k + 1)).foldl growStep q.1) := by have := hnx.out; rw [if_pos hq0] at this; exact this
          clear hq0
          go_wp2_with fail
          go_roundw
          case rel =>
            refine ⟨k + 1, q.1, g, by omega, by go_num, hnx2, hgd3, ?_, ?_, ?_, ?_⟩
            · show _ = _; rw [set7_far (by omega)]; exact hR5.out
            · show _ = _; rw [← eg0.out, ← eg1.out, ← eg2.out, ← eg3.out]; exact set7_blk hS5.out
            · exact rdLv_set7 hS5.out (lv_sl hlv.out) hlv5.out
            · exact below_set7 hB5 (by omega)
          case measure => simp [intOf]; omega
        · have hq0' : (q.2 == 0) = false := by simpa using hq0
          have hgd3 : Hid (Gd s' (k + 1)) := gd_mono hgd.out (by omega)
          have hnx2 : Hid (r = ((l.take 30).drop (k + 1)).foldl growStep s') := by have := hnx.out; rw [if_neg hq0] at this; exact this
          clear hq0
          go_wp2_with fail
          go_roundw
          case rel => exact ⟨k + 1, s', f', by omega, by go_num, hnx2, hgd3, hR5, hS5, hlvs, hB5⟩
          case measure => simp [intOf]; omega
    · obtain rfl : k = (l.take 30).length := by omega
      have hfin : Hid (r = s') := by show _ = _; rw [hfold.out, List.drop_length]; rfl
      obtain ⟨C0, d0, f0e, _, _⟩ := (hlv.out 0 (by omega)).len
      obtain ⟨C1, d1, f1e, _, _⟩ := (hlv.out 1 (by omega)).len
      obtain ⟨C2, d2, f2e, _, _⟩ := (hlv.out 2 (by omega)).len
      obtain ⟨C3, d3, f3e, _, _⟩ := (hlv.out 3 (by omega)).len
      obtain ⟨s0, s1, s2, s3, s4, s5, s6⟩ := stA_all hS.out
      rw [f0e] at s3
      rw [f1e] at s4
      rw [f2e] at s5
      rw [f3e] at s6
      replace f0e := Lib.hid f0e
      replace f1e := Lib.hid f1e
      replace f2e := Lib.hid f2e
      replace f3e := Lib.hid f3e
      obtain ⟨z0, z1, z2, z3, z4, z5, z6⟩ := stA_all hR.out
      simp only [noS, nilF] at z0 z1 z2 z3 z4 z5 z6
      obtain ⟨x0, x1, x2, x3, x4, x5, x6⟩ := stA_free hR.out
      have hways := hL3.out (l.take 30).length
      by_cases h30 : (l.take 30).length < l.length
      case' pos =>
        have h30a : ((l.take 30).length : Int) < l.length := by omega
        have h30b : decide (((l.take 30).length : Int) < 30) = false := by simp; omega
        have h30c : ¬ ((l.take 30).length : Int) < 30 := by omega
      case' neg =>
        have h30a : ¬ ((l.take 30).length : Int) < l.length := by omega
        have h30b : True := trivial
        have h30c : True := trivial
      all_goals
        replace hways := Lib.hid hways
        clear h30
        generalize (l.take 30).length = kk at *
        go_wp2_with fail
        refine bodyPost_ret (v := .agg #[.int .i64 s'.log, .int .i64 s'.next, .int .i64 s'.seq, .slice C0 (s'.lv 0).length d0, .slice C1 (s'.lv 1).length d1, .slice C2 (s'.lv 2).length d2, .slice C3 (s'.lv 3).length d3]) ?_ rfl ?_
        · simp [results, Try.results14, go_sem, *]
        · rw [hfin.out]
          exact ⟨f', by rw [f0e.out, f1e.out, f2e.out, f3e.out], rdLv_set7 hR.out (fun n _ => ⟨none, 0, 0, rfl⟩) hlv.out, below_set7 hb.out (Nat.le_refl _)⟩
end Go.Proofs.Ytheanmfdfoefoaa
