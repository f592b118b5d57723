/- assartref17.DocApply. -/
import Derived.Test.YtheanmfdfoefoaaRefRight
import Derived.Test.YtheanmfdfoefoaaRefPut
import Derived.Test.YtheanmfdfoefoaaRdx
import Derived.Deep.CutBlock
import Derived.Deep.RegionWith
namespace Go.Proofs.Ytheanmfdfoefoaa
open Go Go.RowKit

def nilF : Nat → Value := fun _ => .slice none 0 0
theorem rd_nil {α : Type} {w : World} {sz : Nat} {f : α → List Value} : RdT w sz f (.slice none 0 0) [] := ⟨none, 0, rfl, Nat.le_refl _, Nat.zero_le _, by simp, fun h => absurd h (by simp)⟩
theorem rd_noS (w : World) : RdLv w nilF noS := fun _ _ => rd_nil
theorem below_set7 {B b : Nat} {w0 w : World} {a0 a1 a2 a3 a4 a5 a6 : Value} (h : Below B w0 w) (hb : B ≤ b) :
    Below B w0 (((((((w.setCell ⟨b, 0, none⟩ a0).setCell ⟨b, 1, none⟩ a1).setCell ⟨b, 2, none⟩ a2).setCell ⟨b, 3, none⟩ a3).setCell ⟨b, 4, none⟩ a4).setCell ⟨b, 5, none⟩ a5).setCell ⟨b, 6, none⟩ a6) :=
  ((((((h.setCell hb _).setCell hb _).setCell hb _).setCell hb _).setCell hb _).setCell hb _).setCell hb _
/-- The four blocks of DocApply. -/
structure DA (w wr : World) (s : StD) (f : Nat → Value) (e : EdD) (gv nv : Value) : Prop where
  bs : wr.heap[w.heap.size]? = some (.cells (stA s f) 28 (0, 0))
  be : wr.heap[w.heap.size + 1]? = some (.cells (edA e gv nv) 62 (0, 0))
  bo : wr.heap[w.heap.size + 2]? = some (.cells (stA noS nilF) 28 (0, 0))
  bn : wr.heap[w.heap.size + 3]? = some (.cells (stA noS nilF) 28 (0, 0))
  lv : ∀ n, n < 4 → RdX w.heap.size (w.heap.size + 4) wr 4 metaC (f n) (s.lv n)
  below : Below w.heap.size w wr
def upd (f : Nat → Value) (n : Nat) (v : Value) : Nat → Value := fun k => if k = n then v else f k
section
variable {w wr w1 : World} {s : StD} {f : Nat → Value} {e : EdD} {gv nv : Value}
theorem DA.lt (h : DA w wr s f e gv nv) : w.heap.size + 3 < wr.heap.size := lt_of_at h.bn
theorem DA.rd (h : DA w wr s f e gv nv) : RdLv wr f s := fun n hn => (h.lv n hn).rd
theorem DA.call (h : DA w wr s f e gv nv) (hb : Below wr.heap.size wr w1) : DA w w1 s f e gv nv := by
  have := h.lt
  exact ⟨(hb.block _ (by omega)).trans h.bs, (hb.block _ (by omega)).trans h.be, (hb.block _ (by omega)).trans h.bo, (hb.block _ (by omega)).trans h.bn, fun n hn => (h.lv n hn).below hb, h.below.trans (hb.mono h.below.size)⟩
theorem DA.drewN (h : DA w wr s f e gv nv) (n : Nat) : DA w (wr.drewN n) s f e gv nv := ⟨h.bs, h.be, h.bo, h.bn, fun k hk => (h.lv k hk).drewN n, below_drewN h.below n⟩
theorem DA.cs (h : DA w wr s f e gv nv) : wr.cell? ⟨w.heap.size, 0, none⟩ = some (.int .i64 s.log) ∧ wr.cell? ⟨w.heap.size, 1, none⟩ = some (.int .i64 s.next) ∧ wr.cell? ⟨w.heap.size, 2, none⟩ = some (.int .i64 s.seq) ∧
    wr.cell? ⟨w.heap.size, 3, none⟩ = some (f 0) ∧ wr.cell? ⟨w.heap.size, 4, none⟩ = some (f 1) ∧ wr.cell? ⟨w.heap.size, 5, none⟩ = some (f 2) ∧ wr.cell? ⟨w.heap.size, 6, none⟩ = some (f 3) := by
  have := h.bs
  refine ⟨?_, ?_, ?_, ?_, ?_, ?_, ?_⟩ <;> simp [World.cell?, this, stA]
theorem DA.ce (h : DA w wr s f e gv nv) : wr.cell? ⟨w.heap.size + 1, 0, none⟩ = some (.int .i64 e.log) ∧ wr.cell? ⟨w.heap.size + 1, 1, none⟩ = some (.int .i64 e.next) ∧ wr.cell? ⟨w.heap.size + 1, 2, none⟩ = some (.int .i64 e.seq) ∧
    wr.cell? ⟨w.heap.size + 1, 3, none⟩ = some gv ∧ wr.cell? ⟨w.heap.size + 1, 4, none⟩ = some nv := by
  have := h.be
  refine ⟨?_, ?_, ?_, ?_, ?_⟩ <;> simp [World.cell?, this, edA]
theorem DA.cn (h : DA w wr s f e gv nv) : wr.cell? ⟨w.heap.size + 3, 0, none⟩ = some (.int .i64 0) ∧ wr.cell? ⟨w.heap.size + 3, 1, none⟩ = some (.int .i64 0) ∧ wr.cell? ⟨w.heap.size + 3, 2, none⟩ = some (.int .i64 0) ∧
    wr.cell? ⟨w.heap.size + 3, 3, none⟩ = some (.slice none 0 0) ∧ wr.cell? ⟨w.heap.size + 3, 4, none⟩ = some (.slice none 0 0) ∧ wr.cell? ⟨w.heap.size + 3, 5, none⟩ = some (.slice none 0 0) ∧ wr.cell? ⟨w.heap.size + 3, 6, none⟩ = some (.slice none 0 0) := by
  have := h.bn
  refine ⟨?_, ?_, ?_, ?_, ?_, ?_, ?_⟩ <;> simp [World.cell?, this, stA, noS, nilF]
theorem DA.co (h : DA w wr s f e gv nv) : wr.cell? ⟨w.heap.size + 2, 0, none⟩ = some (.int .i64 0) ∧ wr.cell? ⟨w.heap.size + 2, 1, none⟩ = some (.int .i64 0) ∧ wr.cell? ⟨w.heap.size + 2, 2, none⟩ = some (.int .i64 0) ∧
    wr.cell? ⟨w.heap.size + 2, 3, none⟩ = some (.slice none 0 0) ∧ wr.cell? ⟨w.heap.size + 2, 4, none⟩ = some (.slice none 0 0) ∧ wr.cell? ⟨w.heap.size + 2, 5, none⟩ = some (.slice none 0 0) ∧ wr.cell? ⟨w.heap.size + 2, 6, none⟩ = some (.slice none 0 0) := by
  have := h.bo
  refine ⟨?_, ?_, ?_, ?_, ?_, ?_, ?_⟩ <;> simp [World.cell?, this, stA, noS, nilF]
theorem DA.free (h : DA w wr s f e gv nv) {b : Nat} (hb : b = w.heap.size ∨ b = w.heap.size + 2) (k : Nat) : wr.frozen? ⟨b, k, none⟩ = false := by
  have h1 := h.bs
  have h2 := h.bo
  rcases hb with rfl | rfl <;> simp [World.frozen?, *]
theorem DA.set (h : DA w wr s f e gv nv) {n : Nat} (hn : n < 4) {v : Value} {l : List MetaD} (hv : RdX w.heap.size (w.heap.size + 4) wr 4 metaC v l) : DA w (wr.setCell ⟨w.heap.size, 3 + n, none⟩ v) (s.with n l) (upd f n v) e gv nv := by
  have hne : ∀ k, k ≠ w.heap.size → (wr.setCell ⟨w.heap.size, 3 + n, none⟩ v).heap[k]? = wr.heap[k]? := fun k hk => Below.heap_setCell wr _ v k hk
  refine ⟨?_, (hne _ (by omega)).trans h.be, (hne _ (by omega)).trans h.bo, (hne _ (by omega)).trans h.bn, fun k hk => ?_, h.below.setCell (Nat.le_refl _) v⟩
  · rw [heap_setCell_same _ _ _ _ _ _ h.bs]
    obtain rfl | rfl | rfl | rfl : n = 0 ∨ n = 1 ∨ n = 2 ∨ n = 3 := by omega
    all_goals simp [stA, upd, StD.with]
  · unfold upd
    rw [with_lv]
    by_cases hkn : k = n
    · rw [if_pos hkn, if_pos hkn]; exact hv.set (Nat.le_refl _) (by omega) _ _
    · rw [if_neg hkn, if_neg hkn]; exact (h.lv k hk).set (Nat.le_refl _) (by omega) _ _
end
theorem da_start (w : World) (s : StD) (f : Nat → Value) (e : EdD) (gv nv : Value) (hf : RdLv w f s) :
    DA w ((((w.alloc (.cells (stA s f) 28)).alloc (.cells (edA e gv nv) 62)).alloc (.cells (stA noS nilF) 28)).alloc (.cells (stA noS nilF) 28)) s f e gv nv := by
  have hb : Below w.heap.size w ((((w.alloc (.cells (stA s f) 28)).alloc (.cells (edA e gv nv) 62)).alloc (.cells (stA noS nilF) 28)).alloc (.cells (stA noS nilF) 28)) :=
    ((((Below.refl _ _).alloc (Nat.le_refl _) _).alloc (by simp) _).alloc (by simp; omega) _).alloc (by simp; omega) _
  refine ⟨?_, ?_, ?_, ?_, fun n hn => (RdX.of_old (hf n hn) (Nat.le_refl _)).below hb, hb⟩
  · exact new_old (new_old (new_old (new_at rfl)))
  · exact new_old (new_old (new_at (by simp)))
  · exact new_old (new_at (by simp))
  · exact new_at (by simp)

def ApplyPost (w : World) (s : StD) (e : EdD) (x : Ending) (w' : World) : Prop :=
  ∃ g, x = .returned (.tuple #[.agg #[.int .i64 (docApply s e).1.log, .int .i64 (docApply s e).1.next, .int .i64 (docApply s e).1.seq, g 0, g 1, g 2, g 3], .int .i64 (docApply s e).2]) ∧ RdLv w' g (docApply s e).1 ∧ Below w.heap.size w w'

set_option maxRecDepth 100000 in
set_option maxHeartbeats 1000000 in
theorem DocApply_no (s : StD) (e : EdD) (f : Nat → Value) (gv nv : Value) (w : World) (hf : RdLv w f s) (hg : RdT w 2 plC gv e.gone) (hn : RdT w 5 addC nv e.new) (hr : rightB e = false) :
    Calls Try.prog 42 #[.agg #[.int .i64 s.log, .int .i64 s.next, .int .i64 s.seq, f 0, f 1, f 2, f 3], .agg #[.int .i64 e.log, .int .i64 e.next, .int .i64 e.seq, gv, nv]] w (ApplyPost w s e) := by
  obtain ⟨A, c, rfl, hnc, hcm⟩ := hg.len
  obtain ⟨A2, c2, rfl, hnc2, hcm2⟩ := hn.len
  have D0 := da_start w s f e (.slice A e.gone.length c) (.slice A2 e.new.length c2) hf
  have KR := Lib.hid (Right_calls e _ _ _ (RdT.below hg D0.below) (RdT.below hn D0.below))
  replace D0 := Lib.hid D0
  clear hg hn hf
  have HD : docApply s e = (noS, 2) := by unfold docApply; rw [if_pos hr]
  replace HD := Lib.hid HD
  rw [hr] at KR
  clear hr
  go_enter Try.func42, Try.ntmps42
  go_wp2_with fail
  refine KR.out.mono ?_
  rintro x w1 ⟨rfl, hb1⟩
  have D := D0.out.call hb1
  obtain ⟨n0, n1, n2, n3, n4, n5, n6⟩ := D.cn
  obtain ⟨o0, o1, o2, o3, o4, o5, o6⟩ := D.co
  have r0 := D.free (.inr rfl) 0
  have r1 := D.free (.inr rfl) 1
  have r2 := D.free (.inr rfl) 2
  have r3 := D.free (.inr rfl) 3
  have r4 := D.free (.inr rfl) 4
  have r5 := D.free (.inr rfl) 5
  have r6 := D.free (.inr rfl) 6
  have hw := D.below
  go_wp2_with fail
  refine bodyPost_ret (v := .tuple #[.agg #[.int .i64 0, .int .i64 0, .int .i64 0, .slice none 0 0, .slice none 0 0, .slice none 0 0, .slice none 0 0], .int .i64 2]) ?_ rfl ⟨nilF, by rw [HD.out]; rfl, by rw [HD.out]; exact rd_noS _, ?_⟩
  · simp [results, Try.results42, go_sem, o0, o1, o2, o3, o4, o5, o6]
  · exact below_set7 hw (by omega)

set_option maxRecDepth 100000 in
set_option maxHeartbeats 4000000 in
theorem DocApply_yes (s : StD) (e : EdD) (f : Nat → Value) (gv nv : Value) (w : World) (hf : RdLv w f s) (hg : RdT w 2 plC gv e.gone) (hn : RdT w 5 addC nv e.new) (hl : ∀ n, n < 4 → (s.lv n).length ≤ 100000) (hr : rightB e = true) :
    Calls Try.prog 42 #[.agg #[.int .i64 s.log, .int .i64 s.next, .int .i64 s.seq, f 0, f 1, f 2, f 3], .agg #[.int .i64 e.log, .int .i64 e.next, .int .i64 e.seq, gv, nv]] w (ApplyPost w s e) := by
  obtain ⟨A, c, rfl, hnc, hcm⟩ := hg.len
  obtain ⟨A2, c2, rfl, hnc2, hcm2⟩ := hn.len
  have D0 := da_start w s f e (.slice A e.gone.length c) (.slice A2 e.new.length c2) hf
  have KR := Lib.hid (Right_calls e _ _ _ (RdT.below hg D0.below) (RdT.below hn D0.below))
  have HG := Lib.hid hg
  have HN := Lib.hid hn
  replace D0 := Lib.hid D0
  clear hg hn hf
  rw [hr] at KR
  have hdoc : docApply s e = if badB s e = true then (noS, 1) else applyGo s e := by
    unfold docApply; rw [if_neg (by rw [hr]; simp)]
  have hrr : headB e = true ∧ e.gone.all plB = true ∧ e.new.all addB = true := by
    unfold rightB at hr
    simp only [Bool.and_eq_true] at hr
    exact ⟨hr.1.1, hr.1.2, hr.2⟩
  have hlens := (headB_iff e).1 hrr.1
  have hlg : e.gone.length ≤ 1000 := hlens.2.2.2.1
  have hln : e.new.length ≤ 1000 := hlens.2.2.2.2
  clear hlens hr
  replace hdoc := Lib.hid hdoc
  replace hrr := Lib.hid hrr
  replace hl := Lib.hid hl
  go_enter Try.func42, Try.ntmps42
  go_wp2_with fail
  refine KR.out.mono ?_
  rintro x w1 ⟨rfl, hb1⟩
  have D := D0.out.call hb1
  clear D0 KR hb1
  obtain ⟨s0, s1, s2, s3, s4, s5, s6⟩ := D.cs
  obtain ⟨e0, e1, e2, e3, e4⟩ := D.ce
  go_upto_region 4 with (fail)
  have HB : Hid (badB s e = ((decide (0 ≤ e.log) && decide (e.log < s.log)) || (decide (0 ≤ e.next) && decide (e.next < s.next)) || (decide (0 ≤ e.seq) && decide (e.seq < s.seq)))) := rfl
  obtain ⟨bb, hbb⟩ : ∃ bb, badB s e = bb := ⟨_, rfl⟩
  rw [hbb] at HB hdoc
  clear hbb
  go_cut [52] (fun s52 wx => s52 = .bool bb ∧ Hid (DA w wx s f e (.slice A e.gone.length c) (.slice A2 e.new.length c2)))
  case first =>
    clear s3 s4 s5 s6 e3 e4 hdoc hrr hl HG HN
    replace D := Lib.hid D
    go_wp2_with fail
    all_goals
      go_meet
      case rel => exact ⟨by rw [HB.out]; clear HB; congr 1; rw [Bool.eq_iff_iff]; first | (simp; done) | (simp; omega), D.out⟩
  case rest =>
    clear s0 s1 s2 s3 s4 s5 s6 e0 e1 e2 e3 e4 D
    obtain ⟨rfl, D⟩ := hcut
    replace D := D.out
    obtain ⟨s0, s1, s2, s3, s4, s5, s6⟩ := D.cs
    obtain ⟨e0, e1, e2, e3, e4⟩ := D.ce
    obtain ⟨n0, n1, n2, n3, n4, n5, n6⟩ := D.cn
    obtain ⟨o0, o1, o2, o3, o4, o5, o6⟩ := D.co
    have r0 := D.free (.inr rfl) 0
    have r1 := D.free (.inr rfl) 1
    have r2 := D.free (.inr rfl) 2
    have r3 := D.free (.inr rfl) 3
    have r4 := D.free (.inr rfl) 4
    have r5 := D.free (.inr rfl) 5
    have r6 := D.free (.inr rfl) 6
    have hw := D.below
    cases bb
    case true =>
      have HD : Hid (docApply s e = (noS, 1)) := by show _ = _; rw [hdoc.out, if_pos rfl]
      replace D := Lib.hid D
      go_wp2_with fail
      refine bodyPost_ret (v := .tuple #[.agg #[.int .i64 0, .int .i64 0, .int .i64 0, .slice none 0 0, .slice none 0 0, .slice none 0 0, .slice none 0 0], .int .i64 1]) ?_ rfl ⟨nilF, by rw [HD.out]; rfl, by rw [HD.out]; exact rd_noS _, ?_⟩
      · simp [results, Try.results42, go_sem, o0, o1, o2, o3, o4, o5, o6]
      · exact below_set7 hw (by omega)
    case false =>
      have hdoc2 : docApply s e = applyGo s e := by rw [hdoc.out, if_neg (by simp)]
      replace hdoc2 := Lib.hid hdoc2
      clear hdoc HB
      replace D := Lib.hid D
      go_wp2_with fail
      clear s0 s1 s2 s3 s4 s5 s6 e0 e1 e2 e3 e4 n0 n1 n2 n3 n4 n5 n6 o0 o1 o2 o3 o4 o5 o6 r0 r1 r2 r3 r4 r5 r6 hw
      go_loopw [7] (fun iv wr => ∃ (k : Nat) (s' : StD) (f' : Nat → Value), k ≤ e.gone.length ∧ iv = .int .i64 (k : Int) ∧ Hid (goneS s e.gone = goneS s' (e.gone.drop k)) ∧ Hid (∀ n, n < 4 → (s'.lv n).length ≤ 100000) ∧ Hid (DA w wr s' f' e (.slice A e.gone.length c) (.slice A2 e.new.length c2)))
        (fun iv _ => e.gone.length - (intOf iv).toNat)
      case atStart => exact ⟨0, s, f, Nat.zero_le _, rfl, rfl, hl, D⟩
      case round =>
        clear D hl
        obtain ⟨k, s', f', hk, rfl, hgs, hl, D'⟩ := hrel
        have D := D'.out
        obtain ⟨s0, s1, s2, s3, s4, s5, s6⟩ := D.cs
        obtain ⟨e0, e1, e2, e3, e4⟩ := D.ce
        by_cases hkl : k < e.gone.length
        · have hkl' : (k : Int) < e.gone.length := by omega
          have h0k : (0 : Int) ≤ k := by omega
          obtain ⟨b, off, x, hA, hblt, hx, c0, c1⟩ := atPl HG.out D.below hkl
          have hdrop : e.gone.drop k = x :: e.gone.drop (k + 1) := by rw [List.drop_eq_getElem_cons hkl, hx.out]
          have hpl : plB x = true := by have := List.all_eq_true.1 hrr.out.2.1 x (by rw [← hx.out]; exact List.getElem_mem _); exact this
          simp only [plB, Bool.and_eq_true, decide_eq_true_eq] at hpl
          obtain ⟨n, hxn, hn4⟩ : ∃ n : Nat, x.level = (n : Int) ∧ n < 4 := ⟨x.level.toNat, by omega, by omega⟩
          clear hpl
          have hn4' : (n : Int) < 4 := by omega
          have h0n : (0 : Int) ≤ n := by omega
          have hxt : x.level.toNat = n := by omega
          rw [hxn] at c0
          have cl := st_cell D.bs hn4
          have hgs2 := hgs.out
          rw [hdrop, goneS, hxt] at hgs2
          replace hgs2 := Lib.hid hgs2
          replace hxn := Lib.hid hxn
          replace hxt := Lib.hid hxt
          replace hdrop := Lib.hid hdrop
          have KW := Lib.hid (fun W (hb : Below wr.heap.size wr W) => without_calls (s'.lv n) x.file (f' n) W ((D.rd n hn4).below hb) (Nat.le_trans (hl.out n hn4) (by omega)))
          have KS : ∀ W, Below wr.heap.size wr W → W.cell? ⟨w.heap.size + 1, 3, none⟩ = some (.slice A e.gone.length c) ∧ W.cell? ⟨b, off + k * 2, none⟩ = some (.int .i64 (n : Int)) ∧ W.cell? ⟨w.heap.size, 3 + n, none⟩ = some (f' n) ∧ W.cell? ⟨b, off + k * 2 + 1, none⟩ = some (.int .i64 x.file) := fun W h => by
            have z := D.below.size
            have z3 := D.lt
            exact ⟨(below_at h (by omega) _).trans e3, (below_at h (by omega) _).trans c0, (below_at h (by omega) _).trans cl, (below_at h (by omega) _).trans c1⟩
          subst hA
          obtain ⟨k0, k1, k2, k3⟩ := KS wr (Below.refl _ _)
          replace KS := Lib.hid KS
          clear s0 s1 s2 s3 s4 s5 s6 e0 e1 e2 e3 e4 c0 c1 cl D
          obtain ⟨bl, hbl⟩ : ∃ bl, decide ((withoutL (s'.lv n) x.file).length < (s'.lv n).length) = bl := ⟨_, rfl⟩
          rw [hbl] at KW
          replace hbl := Lib.hid hbl
          go_wp2_with fail
          go_region_held3 (fun W => W.cell? ⟨w.heap.size + 1, 3, none⟩ = some (.slice (some ⟨b, off, none⟩) e.gone.length c) ∧ W.cell? ⟨b, off + k * 2, none⟩ = some (.int .i64 (n : Int)) ∧ W.cell? ⟨w.heap.size, 3 + n, none⟩ = some (f' n) ∧ W.cell? ⟨b, off + k * 2 + 1, none⟩ = some (.int .i64 x.file))
            (first | exact KS.out _ (Below.refl _ _).drew | exact KS.out _ hb2)
            ((go_at_call 66; refine (KW.out _ (Below.refl _ _).drew).mono ?_; rintro y w2 ⟨v2, rfl, hown2, hb2'⟩; have hb2 := (Below.refl wr.heap.size wr).drew.trans hb2'))
          have D := D'.out.call hb2
          have hX := RdX.of_own (lo := w.heap.size) (hi := w.heap.size + 4) hown2 (by have := D'.out.lt; show w.heap.size + 4 ≤ wr.heap.size; omega)
          obtain ⟨n0, n1, n2, n3, n4, n5, n6⟩ := D.cn
          obtain ⟨o0, o1, o2, o3, o4, o5, o6⟩ := D.co
          have r0 := D.free (.inr rfl) 0
          have r1 := D.free (.inr rfl) 1
          have r2 := D.free (.inr rfl) 2
          have r3 := D.free (.inr rfl) 3
          have r4 := D.free (.inr rfl) 4
          have r5 := D.free (.inr rfl) 5
          have r6 := D.free (.inr rfl) 6
          have hw := D.below
          replace D := Lib.hid D
          obtain ⟨A3, c3, rfl, _, _, _, _⟩ := Rd.of_own hown2
          replace hown2 := Lib.hid hown2
          cases bl
          · have HD : Hid (docApply s e = (noS, 7)) := by
              show _ = _
              rw [hdoc2.out, applyGo, hgs2.out, if_neg (by simpa using hbl.out)]
            go_wp2_with fail
            refine bodyPost_ret (v := .tuple #[.agg #[.int .i64 0, .int .i64 0, .int .i64 0, .slice none 0 0, .slice none 0 0, .slice none 0 0, .slice none 0 0], .int .i64 7]) ?_ rfl ⟨nilF, by rw [HD.out]; rfl, by rw [HD.out]; exact rd_noS _, ?_⟩
            · simp [results, Try.results42, go_sem, o0, o1, o2, o3, o4, o5, o6]
            · exact below_set7 hw (by omega)
          · have hfr := D.out.free (.inl rfl) (3 + n)
            have hcl := st_cell D.out.bs hn4
            have he3 := (KS.out _ hb2).1
            have he0 := (KS.out _ hb2).2.1
            rw [if_pos (by simpa using hbl.out)] at hgs2
            have D2 := D.out.set hn4 hX
            replace D2 := Lib.hid D2
            have hl2 : ∀ m, m < 4 → ((s'.with n (withoutL (s'.lv n) x.file)).lv m).length ≤ 100000 := fun m hm => by
              rw [with_lv]
              split
              · exact Nat.le_trans (withoutL_len _ _) (hl.out n hn4)
              · exact hl.out m hm
            replace hl2 := Lib.hid hl2
            go_wp2_with fail
            go_roundw
            case rel => exact ⟨k + 1, _, _, by omega, by go_num, hgs2, hl2, D2⟩
            case measure => simp [intOf]; omega
        · obtain rfl : k = e.gone.length := by omega
          rw [List.drop_length] at hgs
          have hdoc3 : docApply s e = applyNew s' e := by rw [hdoc2.out, applyGo, hgs.out]; rfl
          replace hdoc3 := Lib.hid hdoc3
          clear hdoc2 hgs D
          obtain ⟨wo, rfl⟩ : ∃ wo : World, wo = wr := ⟨_, rfl⟩
          go_wp2_with fail
          clear s0 s1 s2 s3 s4 s5 s6 e0 e1 e2 e3 e4
          go_loopw [10, 11] (fun iv _ wr => ∃ (k : Nat) (s2 : StD) (f2 : Nat → Value), k ≤ e.new.length ∧ iv = .int .i64 (k : Int) ∧ Hid (newS s' e.new = newS s2 (e.new.drop k)) ∧ Hid (∀ n, n < 4 → (s2.lv n).length ≤ 100000 + k) ∧ Hid (DA w wr s2 f2 e (.slice A e.gone.length c) (.slice A2 e.new.length c2)))
            (fun iv _ _ => e.new.length - (intOf iv).toNat)
          case atStart => exact ⟨0, s', f', Nat.zero_le _, rfl, rfl, hl, D'⟩
          case round =>
            clear D' hl hk hkl
            obtain ⟨k, s2, f2, hk, rfl, hgs, hl, D'⟩ := hrel
            have D := D'.out
            obtain ⟨s0, s1, s2_, s3, s4, s5, s6⟩ := D.cs
            obtain ⟨e0, e1, e2, e3, e4⟩ := D.ce
            by_cases hkl : k < e.new.length
            · have hkl' : (k : Int) < e.new.length := by omega
              have h0k : (0 : Int) ≤ k := by omega
              have z := D.below.size
              have z3 := D.lt
              obtain ⟨b, off, x, hA, hblt, hx, c0, q1, q2, q3, q4⟩ := atAdd HN.out D.below hkl
              have hdrop : e.new.drop k = x :: e.new.drop (k + 1) := by rw [List.drop_eq_getElem_cons hkl, hx.out]
              have hpl : addB x = true := by have := List.all_eq_true.1 hrr.out.2.2 x (by rw [← hx.out]; exact List.getElem_mem _); exact this
              simp only [addB, Bool.and_eq_true, decide_eq_true_eq] at hpl
              obtain ⟨n, hxn, hn4⟩ : ∃ n : Nat, x.level = (n : Int) ∧ n < 4 := ⟨x.level.toNat, by omega, by omega⟩
              clear hpl
              have hn4' : (n : Int) < 4 := by omega
              have h0n : (0 : Int) ≤ n := by omega
              have hxt : x.level.toNat = n := by omega
              rw [hxn] at c0
              have cl := st_cell D.bs hn4
              have hgs2 := hgs.out
              rw [hdrop, newS, hxt] at hgs2
              replace hgs2 := Lib.hid hgs2
              replace hxn := Lib.hid hxn
              replace hxt := Lib.hid hxt
              replace hdrop := Lib.hid hdrop
              have KW := Lib.hid (fun W (hb : Below wr.heap.size wr W) => has_calls s2 x.t.file f2 W (D.rd.below hb))
              have KP := Lib.hid (fun W (hb : Below wr.heap.size wr W) => put_calls (s2.lv n) x.t n (f2 n) W ((D.rd n hn4).below hb) (Nat.le_trans (hl.out n hn4) (by omega)))
              have KS : ∀ W, Below wr.heap.size wr W → W.cell? ⟨w.heap.size, 0, none⟩ = some (.int .i64 s2.log) ∧ W.cell? ⟨w.heap.size, 1, none⟩ = some (.int .i64 s2.next) ∧ W.cell? ⟨w.heap.size, 2, none⟩ = some (.int .i64 s2.seq) ∧ W.cell? ⟨w.heap.size, 3, none⟩ = some (f2 0) ∧ W.cell? ⟨w.heap.size, 4, none⟩ = some (f2 1) ∧ W.cell? ⟨w.heap.size, 5, none⟩ = some (f2 2) ∧ W.cell? ⟨w.heap.size, 6, none⟩ = some (f2 3) ∧ W.cell? ⟨w.heap.size + 1, 4, none⟩ = some (.slice A2 e.new.length c2) ∧ W.cell? ⟨b, off + k * 5 + 1, none⟩ = some (.int .i64 x.t.file) := fun W h => by
                exact ⟨(below_at h (by omega) _).trans s0, (below_at h (by omega) _).trans s1, (below_at h (by omega) _).trans s2_, (below_at h (by omega) _).trans s3, (below_at h (by omega) _).trans s4, (below_at h (by omega) _).trans s5, (below_at h (by omega) _).trans s6, (below_at h (by omega) _).trans e4, (below_at h (by omega) _).trans q1⟩
              have KT : ∀ W, Below wr.heap.size wr W → W.cell? ⟨w.heap.size, 3 + n, none⟩ = some (f2 n) ∧ W.cell? ⟨w.heap.size + 1, 4, none⟩ = some (.slice A2 e.new.length c2) ∧ W.cell? ⟨b, off + k * 5 + 1, none⟩ = some (.int .i64 x.t.file) ∧ W.cell? ⟨b, off + k * 5 + 2, none⟩ = some (.int .i64 x.t.size) ∧ W.cell? ⟨b, off + k * 5 + 3, none⟩ = some (.string x.t.first) ∧ W.cell? ⟨b, off + k * 5 + 4, none⟩ = some (.string x.t.last) := fun W h => by
                exact ⟨(below_at h (by omega) _).trans cl, (below_at h (by omega) _).trans e4, (below_at h (by omega) _).trans q1, (below_at h (by omega) _).trans q2, (below_at h (by omega) _).trans q3, (below_at h (by omega) _).trans q4⟩
              have KL : ∀ W, Below wr.heap.size wr W → W.cell? ⟨b, off + k * 5, none⟩ = some (.int .i64 (n : Int)) := fun W h => (below_at h (by omega) _).trans c0
              subst hA
              obtain ⟨t0, t1, t2, t3, t4, t5, t6, t7, t8⟩ := KS wr (Below.refl _ _)
              replace KS := Lib.hid KS
              replace KT := Lib.hid KT
              replace KL := Lib.hid KL
              clear s0 s1 s2_ s3 s4 s5 s6 e0 e1 e2 e3 e4 c0 cl D q1 q2 q3 q4
              obtain ⟨bl, hbl⟩ : ∃ bl, hasB s2 x.t.file = bl := ⟨_, rfl⟩
              rw [hbl] at KW hgs2
              clear hbl
              go_wp2_with fail
              go_region_held3 (fun W => W.cell? ⟨w.heap.size, 0, none⟩ = some (.int .i64 s2.log) ∧ W.cell? ⟨w.heap.size, 1, none⟩ = some (.int .i64 s2.next) ∧ W.cell? ⟨w.heap.size, 2, none⟩ = some (.int .i64 s2.seq) ∧ W.cell? ⟨w.heap.size, 3, none⟩ = some (f2 0) ∧ W.cell? ⟨w.heap.size, 4, none⟩ = some (f2 1) ∧ W.cell? ⟨w.heap.size, 5, none⟩ = some (f2 2) ∧ W.cell? ⟨w.heap.size, 6, none⟩ = some (f2 3) ∧ W.cell? ⟨w.heap.size + 1, 4, none⟩ = some (.slice (some ⟨b, off, none⟩) e.new.length c2) ∧ W.cell? ⟨b, off + k * 5 + 1, none⟩ = some (.int .i64 x.t.file))
                (first | exact KS.out _ (Below.refl _ _).drew | exact KS.out _ hb2)
                ((go_at_call 67; refine (KW.out _ (Below.refl _ _).drew).mono ?_; rintro y w2 ⟨rfl, hb2'⟩; have hb2 := (Below.refl wr.heap.size wr).drew.trans hb2'))
              clear t0 t1 t2 t3 t4 t5 t6 t7 t8
              have D := D'.out.call hb2
              obtain ⟨n0, n1, n2, n3, n4, n5, n6⟩ := D.cn
              obtain ⟨o0, o1, o2, o3, o4, o5, o6⟩ := D.co
              have r0 := D.free (.inr rfl) 0
              have r1 := D.free (.inr rfl) 1
              have r2 := D.free (.inr rfl) 2
              have r3 := D.free (.inr rfl) 3
              have r4 := D.free (.inr rfl) 4
              have r5 := D.free (.inr rfl) 5
              have r6 := D.free (.inr rfl) 6
              have hw := D.below
              replace D := Lib.hid D
              cases bl
              case true =>
                have HD : Hid (docApply s e = (noS, 8)) := by
                  show _ = _
                  rw [hdoc3.out, applyNew, hgs2.out, if_pos rfl]
                go_wp2_with fail
                refine bodyPost_ret (v := .tuple #[.agg #[.int .i64 0, .int .i64 0, .int .i64 0, .slice none 0 0, .slice none 0 0, .slice none 0 0, .slice none 0 0], .int .i64 8]) ?_ rfl ⟨nilF, by rw [HD.out]; rfl, by rw [HD.out]; exact rd_noS _, ?_⟩
                · simp [results, Try.results42, go_sem, o0, o1, o2, o3, o4, o5, o6]
                · exact below_set7 hw (by omega)
              case false =>
                have hl0 := KL.out _ hb2
                obtain ⟨t0, t1, t2, t3, t4, t5⟩ := KT.out _ hb2
                have KF : ∀ W, Below w2.heap.size w2 W → W.frozen? ⟨w.heap.size, 3 + n, none⟩ = false := fun W h => (D.out.call h).free (.inl rfl) _
                replace KF := Lib.hid KF
                have KU : ∀ W v, Below wr.heap.size wr W → (W.setCell ⟨w.heap.size, 3 + n, none⟩ v).cell? ⟨w.heap.size + 1, 4, none⟩ = some (.slice (some ⟨b, off, none⟩) e.new.length c2) ∧ (W.setCell ⟨w.heap.size, 3 + n, none⟩ v).cell? ⟨b, off + k * 5 + 1, none⟩ = some (.int .i64 x.t.file) ∧ (W.setCell ⟨w.heap.size, 3 + n, none⟩ v).cell? ⟨b, off + k * 5 + 2, none⟩ = some (.int .i64 x.t.size) ∧ (W.setCell ⟨w.heap.size, 3 + n, none⟩ v).cell? ⟨b, off + k * 5 + 3, none⟩ = some (.string x.t.first) ∧ (W.setCell ⟨w.heap.size, 3 + n, none⟩ v).cell? ⟨b, off + k * 5 + 4, none⟩ = some (.string x.t.last) := fun W v h => by
                  obtain ⟨_, u1, u2, u3, u4, u5⟩ := KT.out W h
                  have hne : ∀ b' o', b' ≠ w.heap.size → (W.setCell ⟨w.heap.size, 3 + n, none⟩ v).cell? ⟨b', o', none⟩ = W.cell? ⟨b', o', none⟩ := fun b' o' hb' => World.cell?_of_block (w := W) (Below.heap_setCell W _ v _ hb')
                  exact ⟨(hne _ _ (by omega)).trans u1, (hne _ _ (by omega)).trans u2, (hne _ _ (by omega)).trans u3, (hne _ _ (by omega)).trans u4, (hne _ _ (by omega)).trans u5⟩
                replace KU := Lib.hid KU
                have hz2 := hb2.size
                rw [if_neg (by simp)] at hgs2
                go_wp2_with fail
                go_region_with ((go_at_call 68; refine (KP.out _ hb2.drew).mono ?_; rintro y w3 ⟨v3, rfl, hown3, hb3'⟩; have hb3 := hb2.drew.trans (hb3'.mono hz2); have hfr := KF.out _ ((Below.refl w2.heap.size w2).drew.trans hb3'); have hcl := (KT.out _ hb3).1; obtain ⟨A3, c3, rfl, _, _, _, _⟩ := Rd.of_own hown3))
                all_goals
                  have hX := RdX.of_own (lo := w.heap.size) (hi := w.heap.size + 4) hown3 (by have := D'.out.lt; show w.heap.size + 4 ≤ w2.heap.size; omega)
                  have D3 := (D.out.call ((Below.refl w2.heap.size w2).drew.trans hb3')).set hn4 hX
                  have hl2 : ∀ m, m < 4 → ((s2.with n (putL (s2.lv n) x.t n)).lv m).length ≤ 100000 + (k + 1) := fun m hm => by
                    rw [with_lv]
                    split
                    · rw [putL_len]; have := hl.out n hn4; omega
                    · have := hl.out m hm; omega
                  replace hl2 := Lib.hid hl2
                  replace D3 := Lib.hid D3
                  replace hown3 := Lib.hid hown3
                  replace hX := Lib.hid hX
                  replace D := Lib.hid D
                  clear n0 n1 n2 n3 n4 n5 n6 o0 o1 o2 o3 o4 o5 o6 r0 r1 r2 r3 r4 r5 r6 hw t0 t1 t2 t3 t4 t5 hl0 hcl hfr
                  go_wp2_with fail
                  go_roundw
                  case rel => exact ⟨k + 1, _, _, by omega, by go_num, hgs2, hl2, D3⟩
                  case measure => simp [intOf]; omega
            · obtain rfl : k = e.new.length := by omega
              rw [List.drop_length] at hgs
              have hdoc4 : docApply s e = applyEnd s2 e := by rw [hdoc3.out, applyNew, hgs.out]; rfl
              replace hdoc4 := Lib.hid hdoc4
              have KC := Lib.hid (count_calls s2 f2 wr D.rd (fun n hn => Nat.le_trans (hl.out n hn) (by omega)))
              clear hdoc3 hgs D
              clear e0 e1 e2 e3
              go_wp2_with fail
              refine KC.out.mono ?_
              rintro y w2 ⟨rfl, hb2⟩
              clear s0 s1 s2_ s3 s4 s5 s6 e4
              have D := D'.out.call hb2
              replace D' := Lib.hid D
              obtain ⟨n0, n1, n2, n3, n4, n5, n6⟩ := D.cn
              obtain ⟨o0, o1, o2, o3, o4, o5, o6⟩ := D.co
              have r0 := D.free (.inr rfl) 0
              have r1 := D.free (.inr rfl) 1
              have r2 := D.free (.inr rfl) 2
              have r3 := D.free (.inr rfl) 3
              have r4 := D.free (.inr rfl) 4
              have r5 := D.free (.inr rfl) 5
              have r6 := D.free (.inr rfl) 6
              have hw := D.below
              have hcm3 : ∀ n, n < 4 → (s2.lv n).length ≤ 200000 := fun n hn => Nat.le_trans (hl.out n hn) (by omega)
              clear KC hl hk hkl hb2
              by_cases hc : 1000 < countS s2
              · have hc' : ((countS s2 : Nat) : Int) > 1000 := by omega
                have HD : Hid (docApply s e = (noS, 14)) := by show _ = _; rw [hdoc4.out, applyEnd, if_pos hc]
                replace D := Lib.hid D
                go_wp2_with fail
                refine bodyPost_ret (v := .tuple #[.agg #[.int .i64 0, .int .i64 0, .int .i64 0, .slice none 0 0, .slice none 0 0, .slice none 0 0, .slice none 0 0], .int .i64 14]) ?_ rfl ⟨nilF, by rw [HD.out]; rfl, by rw [HD.out]; exact rd_noS _, ?_⟩
                · simp [results, Try.results42, go_sem, o0, o1, o2, o3, o4, o5, o6]
                · exact below_set7 hw (by omega)
              · have hc' : ¬ ((countS s2 : Nat) : Int) > 1000 := by omega
                have hdoc5 : docApply s e = if apartS s2 = false then (noS, 2) else (tellS s2 e, 0) := by rw [hdoc4.out, applyEnd, if_neg hc]
                replace hdoc5 := Lib.hid hdoc5
                replace hcm3 := Lib.hid hcm3
                clear hdoc4
                go_wp2_with fail
                clear n0 n1 n2 n3 n4 n5 n6 o0 o1 o2 o3 o4 o5 o6 r0 r1 r2 r3 r4 r5 r6 hw hc hc' D
                go_loopw [12, 13] (fun nv _ wr => ∃ n : Nat, 1 ≤ n ∧ n ≤ 4 ∧ nv = .int .i64 (n : Int) ∧ Hid (∀ j, 1 ≤ j → j < n → apartL (s2.lv j) = true) ∧ Hid (DA w wr s2 f2 e (.slice A e.gone.length c) (.slice A2 e.new.length c2)))
                  (fun nv _ _ => 4 - (intOf nv).toNat)
                case atStart => exact ⟨1, by omega, by omega, rfl, fun j h1 h2 => absurd h2 (by omega), D'⟩
                case round =>
                  clear D'
                  obtain ⟨n, hn1, hn4, rfl, hap, D'⟩ := hrel
                  obtain ⟨wo2, rfl⟩ : ∃ wo2 : World, wo2 = wr := ⟨_, rfl⟩
                  by_cases hn : n < 4
                  · have hn' : (n : Int) < 4 := by omega
                    have h0n : (0 : Int) ≤ n := by omega
                    go_wp2_with fail
                    go_loopw [13] (fun iv wr => ∃ j : Nat, j ≤ (s2.lv n).length ∧ iv = .int .i64 ((j : Int) + 1) ∧ Hid (∀ i, i < j → ∀ h : i + 1 < (s2.lv n).length, sle (s2.lv n)[i + 1].first ((s2.lv n)[i]'(by omega)).last = false) ∧ Hid (DA w wr s2 f2 e (.slice A e.gone.length c) (.slice A2 e.new.length c2)))
                      (fun iv _ => (s2.lv n).length + 1 - (intOf iv).toNat)
                    case atStart => exact ⟨0, Nat.zero_le _, rfl, fun i h => absurd h (by omega), D'⟩
                    case round =>
                      clear D'
                      obtain ⟨j, hj, rfl, hsl, D'⟩ := hrel
                      have D := D'.out
                      have cl := st_cell D.bs hn
                      have hL := D.rd n hn
                      obtain ⟨A4, c4, hfk, hnc4, hcm4⟩ := hL.len
                      rw [hfk] at cl hL
                      have hlen := hcm3.out n hn
                      have hj0 : (0 : Int) ≤ j := by omega
                      have hj1 : (0 : Int) ≤ (j : Int) + 1 := by omega
                      have hjt : ((j : Int) + 1).toNat = j + 1 := by omega
                      by_cases hjl : j + 1 < (s2.lv n).length
                      · have hjl' : (j : Int) + 1 < (s2.lv n).length := by omega
                        have hjl2 : (j : Int) < (s2.lv n).length := by omega
                        obtain ⟨b, off, x, hA, hblt, hx, c0, c1, p2, c3⟩ := atMeta hL (Below.refl _ _) hjl
                        obtain ⟨b', off', y, hA', _, hy, d0, d1, d2, d3⟩ := atMeta hL (Below.refl _ _) (k := j) (by omega)
                        rw [hA] at hA'
                        injection hA' with hA'
                        injection hA' with e1 e2
                        subst e1 e2 hA
                        replace hfk := Lib.hid hfk
                        replace hL := Lib.hid hL
                        clear c0 c1 c3 d0 d1 d2
                        have HSL : Hid (sle x.first y.last = (Op.bytesLess x.first.toList y.last.toList || x.first.toList == y.last.toList)) := rfl
                        obtain ⟨bb, hbb⟩ : ∃ bb, (Op.bytesLess x.first.toList y.last.toList || x.first.toList == y.last.toList) = bb := ⟨_, rfl⟩
                        rw [hbb] at HSL
                        obtain ⟨n0, n1, n2, n3, n4, n5, n6⟩ := D.cn
                        obtain ⟨o0, o1, o2, o3, o4, o5, o6⟩ := D.co
                        have r0 := D.free (.inr rfl) 0
                        have r1 := D.free (.inr rfl) 1
                        have r2 := D.free (.inr rfl) 2
                        have r3 := D.free (.inr rfl) 3
                        have r4 := D.free (.inr rfl) 4
                        have r5 := D.free (.inr rfl) 5
                        have r6 := D.free (.inr rfl) 6
                        have hw := D.below
                        replace D := Lib.hid D
                        cases bb
                        · have hnx : Hid (∀ i, i < j + 1 → ∀ h : i + 1 < (s2.lv n).length, sle (s2.lv n)[i + 1].first ((s2.lv n)[i]'(by omega)).last = false) := fun i hi h => by
                            rcases Nat.lt_or_ge i j with h' | h'
                            · exact hsl.out i h' h
                            · obtain rfl : i = j := by omega
                              rw [hx.out, hy.out, HSL.out]
                          go_wp2_with fail
                          go_quiet (fail)
                          go_wp2_with fail
                          go_roundw
                          case rel => exact ⟨j + 1, by omega, by go_num, hnx, D'.out.drewN _⟩
                          case measure => simp [intOf]; omega
                        · have hno : apartS s2 = false := by
                            have : apartL (s2.lv n) = false := by
                              rcases h : apartL (s2.lv n) with _ | _
                              · rfl
                              · have := (apart_iff _).1 h j hjl
                                rw [hx.out, hy.out, HSL.out] at this
                                cases this
                            unfold apartS
                            obtain rfl | rfl | rfl : n = 1 ∨ n = 2 ∨ n = 3 := by omega
                            all_goals simp [this]
                          have HD : Hid (docApply s e = (noS, 2)) := by show _ = _; rw [hdoc5.out, if_pos hno]
                          go_wp2_with fail
                          go_quiet (fail)
                          go_wp2_with fail
                          replace hw := below_drewN hw nq
                          refine bodyPost_ret (v := .tuple #[.agg #[.int .i64 0, .int .i64 0, .int .i64 0, .slice none 0 0, .slice none 0 0, .slice none 0 0, .slice none 0 0], .int .i64 2]) ?_ rfl ⟨nilF, by rw [HD.out]; rfl, by rw [HD.out]; exact rd_noS _, ?_⟩
                          · simp [results, Try.results42, go_sem, o0, o1, o2, o3, o4, o5, o6]
                          · exact below_set7 hw (by omega)
                      · have hjl' : ¬ (j : Int) + 1 < (s2.lv n).length := by omega
                        have hnx : Hid (∀ i, 1 ≤ i → i < n + 1 → apartL (s2.lv i) = true) := fun i h1 h2 => by
                          rcases Nat.lt_or_ge i n with h' | h'
                          · exact hap.out i h1 h'
                          · obtain rfl : i = n := by omega
                            exact (apart_iff _).2 fun k hk => hsl.out k (by omega) hk
                        replace D := Lib.hid D
                        replace hfk := Lib.hid hfk
                        replace hL := Lib.hid hL
                        clear hap hsl
                        go_wp2_with fail
                        go_roundw
                        case rel => exact ⟨n + 1, by omega, by omega, by go_num, hnx, D'⟩
                        case measure => simp [intOf]; omega
                  · obtain rfl : n = 4 := by omega
                    have hyes : apartS s2 = true := by
                      unfold apartS
                      rw [hap.out 1 (by omega) (by omega), hap.out 2 (by omega) (by omega), hap.out 3 (by omega) (by omega)]; rfl
                    have HD : Hid (docApply s e = (tellS s2 e, 0)) := by show _ = _; rw [hdoc5.out, if_neg (by rw [hyes]; simp)]
                    have D := D'.out
                    obtain ⟨s0, s1, s2_, s3, s4, s5, s6⟩ := D.cs
                    obtain ⟨e0, e1, e2, e3, e4⟩ := D.ce
                    have f0 := D.free (.inl rfl) 0
                    have f1 := D.free (.inl rfl) 1
                    have f2_ := D.free (.inl rfl) 2
                    obtain ⟨n0, n1, n2, n3, n4, n5, n6⟩ := D.cn
                    obtain ⟨o0, o1, o2, o3, o4, o5, o6⟩ := D.co
                    have r0 := D.free (.inr rfl) 0
                    have r1 := D.free (.inr rfl) 1
                    have r2 := D.free (.inr rfl) 2
                    have r3 := D.free (.inr rfl) 3
                    have r4 := D.free (.inr rfl) 4
                    have r5 := D.free (.inr rfl) 5
                    have r6 := D.free (.inr rfl) 6
                    have hw := D.below
                    clear hdoc5 hap hyes hcm3
                    obtain ⟨A5, c5, hf0, _, _⟩ := (D.rd 0 (by omega)).len
                    obtain ⟨A6, c6, hf1, _, _⟩ := (D.rd 1 (by omega)).len
                    obtain ⟨A7, c7, hf2, _, _⟩ := (D.rd 2 (by omega)).len
                    obtain ⟨A8, c8, hf3, _, _⟩ := (D.rd 3 (by omega)).len
                    rw [hf0] at s3
                    rw [hf1] at s4
                    rw [hf2] at s5
                    rw [hf3] at s6
                    replace hf0 := Lib.hid hf0
                    replace hf1 := Lib.hid hf1
                    replace hf2 := Lib.hid hf2
                    replace hf3 := Lib.hid hf3
                    have hlv := D.lv
                    replace hlv := Lib.hid hlv
                    replace D := Lib.hid D
                    go_wp2_with fail
                    all_goals
                      refine bodyPost_ret (v := .tuple #[.agg #[.int .i64 (told e.log s2.log), .int .i64 (told e.next s2.next), .int .i64 (told e.seq s2.seq), .slice A5 (s2.lv 0).length c5, .slice A6 (s2.lv 1).length c6, .slice A7 (s2.lv 2).length c7, .slice A8 (s2.lv 3).length c8], .int .i64 0]) ?_ rfl ⟨f2, by rw [HD.out, hf0.out, hf1.out, hf2.out, hf3.out]; rfl, ?_, ?_⟩
                      · first | (simp [results, Try.results42, go_sem, told, *]; done) | (simp [results, Try.results42, go_sem, told, *]; omega)
                      · rw [HD.out]
                        intro i hi
                        refine RdX.rd (lo := w.heap.size) (hi := w.heap.size + 4) ?_
                        repeat (refine RdX.set ?_ (by omega) (by omega) _ _)
                        exact hlv.out i hi
                      · refine below_set7 ?_ (by omega)
                        first | exact hw | exact hw.setCell (Nat.le_refl _) _ | exact (hw.setCell (Nat.le_refl _) _).setCell (Nat.le_refl _) _ | exact ((hw.setCell (Nat.le_refl _) _).setCell (Nat.le_refl _) _).setCell (Nat.le_refl _) _

theorem DocApply_calls (s : StD) (e : EdD) (f : Nat → Value) (gv nv : Value) (w : World) (hf : RdLv w f s) (hg : RdT w 2 plC gv e.gone) (hn : RdT w 5 addC nv e.new) (hl : ∀ n, n < 4 → (s.lv n).length ≤ 100000) :
    Calls Try.prog 42 #[.agg #[.int .i64 s.log, .int .i64 s.next, .int .i64 s.seq, f 0, f 1, f 2, f 3], .agg #[.int .i64 e.log, .int .i64 e.next, .int .i64 e.seq, gv, nv]] w (ApplyPost w s e) := by
  rcases hr : rightB e with _ | _
  · exact DocApply_no s e f gv nv w hf hg hn hr
  · exact DocApply_yes s e f gv nv w hf hg hn hl hr
end Go.Proofs.Ytheanmfdfoefoaa
