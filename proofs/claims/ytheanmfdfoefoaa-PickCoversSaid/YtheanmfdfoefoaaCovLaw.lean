/- The law PickCovers: its walk. -/
import Derived.Test.YtheanmfdfoefoaaHolding
import Derived.Test.YtheanmfdfoefoaaPickLaw
namespace Go.Proofs.Ytheanmfdfoefoaa
open Go Go.RowKit

def CovS (W : World) (B S : Nat) (lim : LimD) (s : StD) (gf : Nat → Value) : Prop := W.cell? ⟨B, 0, none⟩ = some (.int .i64 lim.tables) ∧ W.cell? ⟨B, 1, none⟩ = some (.int .i64 lim.bytes) ∧ W.cell? ⟨S, 0, none⟩ = some (.int .i64 s.log) ∧ W.cell? ⟨S, 1, none⟩ = some (.int .i64 s.next) ∧ W.cell? ⟨S, 2, none⟩ = some (.int .i64 s.seq) ∧ W.cell? ⟨S, 3, none⟩ = some (gf 0) ∧ W.cell? ⟨S, 4, none⟩ = some (gf 1) ∧ W.cell? ⟨S, 5, none⟩ = some (gf 2) ∧ W.cell? ⟨S, 6, none⟩ = some (gf 3)
theorem CovS.mk' {W : World} {B S : Nat} {lim : LimD} {s : StD} {gf : Nat → Value} {t t' : TypeId} (h1 : W.heap[B]? = some (.cells #[.int .i64 lim.tables, .int .i64 lim.bytes] t (0, 0))) (h2 : W.heap[S]? = some (.cells (stA s gf) t' (0, 0))) : CovS W B S lim s gf :=
  ⟨by simp [World.cell?, h1], by simp [World.cell?, h1], stA_all h2⟩
def covT (z m : Int) : Int := IntKind.i64.wrap (1 + IntKind.i64.wrap ((IntKind.u64.wrap z).tmod m))
theorem covT_bd (z m : Int) (h0 : 0 < m) (hm : m ≤ 2000) : 1 ≤ covT z m ∧ covT z m ≤ m := by
  have h1 : 0 ≤ IntKind.u64.wrap z := by simp [IntKind.wrap, IntKind.bits, IntKind.signed]; omega
  have h2 : 0 ≤ (IntKind.u64.wrap z).tmod m := Int.tmod_nonneg _ h1
  have h3 : (IntKind.u64.wrap z).tmod m < m := Int.tmod_lt_of_pos _ h0
  unfold covT
  have h4 : IntKind.i64.wrap ((IntKind.u64.wrap z).tmod m) = (IntKind.u64.wrap z).tmod m := IntWalk.i64_in _ (by omega)
  rw [h4, IntWalk.i64_in _ (by omega)]
  omega
def limP (lim : LimD) : LimD := ⟨covT lim.tables 9, covT lim.bytes 2000⟩
theorem limP_ok (lim : LimD) : limB (limP lim) = true := by
  have h1 := covT_bd lim.tables 9 (by omega) (by omega)
  have h2 := covT_bd lim.bytes 2000 (by omega) (by omega)
  exact (limB_iff _).2 ⟨by show 1 ≤ covT _ _; omega, by show covT _ _ ≤ _; omega, by show 1 ≤ covT _ _; omega, by show covT _ _ ≤ _; omega⟩
/-- What lies in memory behind pick.Next. -/
structure CovP (w0 W : World) (S7 J : Nat) (s : StD) (gf : Nat → Value) (j : JobD) (vf vt : Value) : Prop where
  hS : W.heap[S7]? = some (.cells (stA s gf) 28 (0, 0))
  hJ : W.heap[J]? = some (.cells (jobA j.level vf vt j.bottom) 42 (0, 0))
  hlv : RdLv W gf s
  hfrm : RdT W 4 metaC vf j.frm
  htoo : RdT W 4 metaC vt j.too
  hB : Below w0.heap.size w0 W
theorem CovP.mk' {w0 w2 W : World} {S7 J base : Nat} {s : StD} {gf : Nat → Value} {j : JobD} {vf vt : Value} (hS : w2.heap[S7]? = some (.cells (stA s gf) 28 (0, 0))) (hlv : RdLv w2 gf s) (hB : Below w0.heap.size w0 w2)
    (hb : Below w2.heap.size w2 W) (hJ : W.heap[J]? = some (.cells (jobA j.level vf vt j.bottom) 42 (0, 0)))
    (hf : W.ownsRow base 51 4 vf j.frm.length (j.frm.flatMap metaC)) (ht : W.ownsRow base 51 4 vt j.too.length (j.too.flatMap metaC)) : CovP w0 W S7 J s gf j vf vt :=
  ⟨(hb.block _ (lt_of_at hS)).trans hS, hJ, hlv.below hb, Rd.of_own hf, Rd.of_own ht, hB.trans (hb.mono hB.size)⟩
theorem own_set4 {w : World} {base : Nat} {e : TypeId} {size n : Nat} {v : Value} {xs : List Value} (h : w.ownsRow base e size v n xs) {b : Nat} (hb : b < base) (a0 a1 a2 a3 : Value) :
    ((((w.setCell ⟨b, 0, none⟩ a0).setCell ⟨b, 1, none⟩ a1).setCell ⟨b, 2, none⟩ a2).setCell ⟨b, 3, none⟩ a3).ownsRow base e size v n xs :=
  own_heap h fun g hg => .inl (set4_far (by omega))
theorem any_next' {α : Type} {p : α → Bool} {l : List α} {k : Nat} (hk : k < l.length) : (l.take (k + 1)).any p = ((l.take k).any p || p l[k]) := by
  rw [take_next hk, List.any_append]; simp
def jobZ : Array Value := #[.int .i64 0, .slice none 0 0, .slice none 0 0, .bool false]
set_option maxRecDepth 100000 in
set_option maxHeartbeats 4000000 in
theorem PickCovers_calls (l : List AddD) (lim : LimD) (key : ByteArray) (v : Value) (w : World) (hv : RdT w 5 addC v l) :
    Calls Try.prog 4 #[v, .agg #[.int .i64 lim.tables, .int .i64 lim.bytes], .string key] w fun e w' => e = .returned (.bool true) ∧ Below w.heap.size w w' := by
  have hgd := grow_gd l
  have hwf := grow_wf l
  have KG := Lib.hid (grown_calls l v (w.alloc (.cells #[.int .i64 lim.tables, .int .i64 lim.bytes] 24)) (RdT.below hv ((Below.refl _ _).alloc (Nat.le_refl _) _)))
  obtain ⟨s, hs⟩ : ∃ s, growS l = s := ⟨_, rfl⟩
  rw [hs] at KG hgd hwf
  have HGD := Lib.hid hgd
  have HWF := Lib.hid hwf
  have HL6 := Lib.hid (fun n hn => Nat.le_trans (hgd.few n hn) (show 30 ≤ 1000000 by omega))
  obtain ⟨Av, cv, hvv, _, _⟩ := hv.len
  subst hvv
  clear hs hv hgd hwf
  go_enter Try.func4, Try.ntmps4
  go_wp2_with fail
  refine KG.out.mono ?_
  rintro e w1 ⟨g, rfl, hlv1, hb1⟩
  clear KG
  obtain ⟨A0, a0, e0, _, _⟩ := (hlv1 0 (by omega)).len
  obtain ⟨A1, a1, e1, _, _⟩ := (hlv1 1 (by omega)).len
  obtain ⟨A2, a2, e2, _, _⟩ := (hlv1 2 (by omega)).len
  obtain ⟨A3, a3, e3, _, _⟩ := (hlv1 3 (by omega)).len
  have hlv1' := slF_lv hlv1 e0 e1 e2 e3
  rw [e0, e1, e2, e3]
  clear e0 e1 e2 e3 hlv1
  obtain ⟨gf, hgf⟩ : ∃ gf, gf = slF (.slice A0 (s.lv 0).length a0) (.slice A1 (s.lv 1).length a1) (.slice A2 (s.lv 2).length a2) (.slice A3 (s.lv 3).length a3) := ⟨_, rfl⟩
  rw [← hgf] at hlv1'
  have hG0 : Hid (gf 0 = .slice A0 (s.lv 0).length a0 ∧ gf 1 = .slice A1 (s.lv 1).length a1 ∧ gf 2 = .slice A2 (s.lv 2).length a2 ∧ gf 3 = .slice A3 (s.lv 3).length a3) := by show _ ∧ _; rw [hgf]; exact ⟨rfl, rfl, rfl, rfl⟩
  clear hgf
  have hB1 : Below w.heap.size w w1 := ((Below.refl _ _).alloc (Nat.le_refl _) _).trans (hb1.mono (by simp))
  have hs1 : w.heap.size + 1 ≤ w1.heap.size := by have := hb1.size; simpa using this
  have hlim1 : w1.heap[w.heap.size]? = some (.cells #[.int .i64 lim.tables, .int .i64 lim.bytes] 24 (0, 0)) := (hb1.block _ (by simp)).trans (new_at rfl)
  clear hb1
  replace hlim1 := Lib.hid hlim1
  replace hlv1' := Lib.hid hlv1'
  go_wp2_with fail
  obtain ⟨w2, hw2⟩ : ∃ w2, w2 = w1.alloc (Obj.cells #[.int .i64 s.log, .int .i64 s.next, .int .i64 s.seq, .slice A0 (s.lv 0).length a0, .slice A1 (s.lv 1).length a1, .slice A2 (s.lv 2).length a2, .slice A3 (s.lv 3).length a3] 28) := ⟨_, rfl⟩
  rw [← hw2]
  have hS2 : w2.heap[w1.heap.size]? = some (.cells (stA s gf) 28 (0, 0)) := by rw [hw2]; unfold stA; rw [hG0.out.1, hG0.out.2.1, hG0.out.2.2.1, hG0.out.2.2.2]; exact new_at rfl
  have hb12 : Below w1.heap.size w1 w2 := by rw [hw2]; exact (Below.refl _ _).alloc (Nat.le_refl _) _
  have hz2 : w2.heap.size = w1.heap.size + 1 := by rw [hw2]; simp
  clear hw2
  obtain ⟨S7, hS7e⟩ : ∃ S7, w1.heap.size = S7 := ⟨_, rfl⟩
  rw [hS7e] at hS2 hz2 hs1 ⊢
  have hlv2 : RdLv w2 gf s := hlv1'.out.below hb12
  have hlim2 : w2.heap[w.heap.size]? = some (.cells #[.int .i64 lim.tables, .int .i64 lim.bytes] 24 (0, 0)) := (hb12.block _ (by omega)).trans hlim1.out
  have hB2 : Below w.heap.size w w2 := hB1.trans (hb12.mono (by omega))
  clear hb12 hlim1 hlv1' hB1 hS7e
  have HC := nextD_cases (s := s) (limP_ok lim)
  have KN : ∀ W (h : Nat → Value), RdLv W h s → Calls Try.prog 17 #[.agg #[.int .i64 s.log, .int .i64 s.next, .int .i64 s.seq, h 0, h 1, h 2, h 3], .agg #[.int .i64 (IntKind.i64.wrap (1 + IntKind.i64.wrap ((IntKind.u64.wrap lim.tables).tmod 9))), .int .i64 (IntKind.i64.wrap (1 + IntKind.i64.wrap ((IntKind.u64.wrap lim.bytes).tmod 2000)))]] W (NextPost W (nextD s (limP lim))) := fun W h hh => Next_calls s h (limP lim) W hh HGD.out
  have HLN := nextD_len s (limP lim) HGD.out
  obtain ⟨r, hr⟩ : ∃ r, nextD s (limP lim) = r := ⟨_, rfl⟩
  rw [hr] at HC KN HLN
  replace HC := Lib.hid HC
  replace KN := Lib.hid KN
  replace HLN := Lib.hid HLN
  clear hr
  have KT := fun W (h : Below w2.heap.size w2 W) => to_calls s gf W (hlv2.below h) HL6.out
  replace KT := Lib.hid KT
  have KS : ∀ W, Below w2.heap.size w2 W → CovS W w.heap.size S7 lim s gf := fun W h => CovS.mk' ((h.block _ (by omega)).trans hlim2) ((h.block _ (by omega)).trans hS2)
  replace KS := Lib.hid KS
  have hSlt := lt_of_at hS2
  clear hz2
  unfold CovS at KS
  rw [hG0.out.1, hG0.out.2.1, hG0.out.2.2.1, hG0.out.2.2.2] at KS KT
  replace hS2 := Lib.hid hS2
  replace hlim2 := Lib.hid hlim2
  replace hlv2 := Lib.hid hlv2
  replace hB2 := Lib.hid hB2
  go_cut [8, 9, 10] (fun s8 s9 s10 wx => ∃ J F0 f0 F1 f1, s8 = .pointer (some ⟨J, 0, none⟩) ∧ s9 = .bool r.2.1 ∧ s10 = .int .i64 r.2.2 ∧ Hid (CovP w wx S7 J s gf r.1 (.slice F0 r.1.frm.length f0) (.slice F1 r.1.too.length f1)))
  case first => as_aux_lemma =>
    go_region_held3 (fun W => W.cell? ⟨w.heap.size, 0, none⟩ = some (.int .i64 lim.tables) ∧ W.cell? ⟨w.heap.size, 1, none⟩ = some (.int .i64 lim.bytes) ∧ W.cell? ⟨S7, 0, none⟩ = some (.int .i64 s.log) ∧ W.cell? ⟨S7, 1, none⟩ = some (.int .i64 s.next) ∧ W.cell? ⟨S7, 2, none⟩ = some (.int .i64 s.seq) ∧ W.cell? ⟨S7, 3, none⟩ = some (.slice A0 (s.lv 0).length a0) ∧ W.cell? ⟨S7, 4, none⟩ = some (.slice A1 (s.lv 1).length a1) ∧ W.cell? ⟨S7, 5, none⟩ = some (.slice A2 (s.lv 2).length a2) ∧ W.cell? ⟨S7, 6, none⟩ = some (.slice A3 (s.lv 3).length a3))
      (first | (with_reducible exact KS.out _ (Below.refl _ _).drew) | (with_reducible exact KS.out _ ((Below.refl _ _).alloc (Nat.le_refl _) _).drew) | (with_reducible exact KS.out _ hb3) | (with_reducible exact KS.out _ hb3a) | (with_reducible exact KS.out _ hb4) | (with_reducible exact KS.out _ hb4a) | (with_reducible exact KS.out _ hb4c) | (with_reducible exact KS.out _ (hb4s _ _ _ _)))
      (first
       | (go_at_call 17
          first | refine (KN.out _ h hlv3).mono ?_ | refine (KN.out _ h hlv3a).mono ?_
          rintro e w4 ⟨vf, vt, rfl, hof, hot, hb4'⟩
          have hrf : RdT w4 4 metaC vf r.1.frm := Rd.of_own hof
          have hrt : RdT w4 4 metaC vt r.1.too := Rd.of_own hot
          obtain ⟨F0, f0, rfl, _, _⟩ := hrf.len
          obtain ⟨F1, f1, rfl, _, _⟩ := hrt.len
          first
            | (have hT : w4.heap[w2.heap.size]? = some (.cells (jobA 0 (.slice none 0 0) (.slice none 0 0) false) 42 (0, 0)) := (hb4'.block w2.heap.size (lt_of_at hU.out)).trans hU.out
               have hTs := Nat.le_refl w2.heap.size
               have hb4 := hb3.trans (hb4'.mono hb3.size)
               obtain ⟨⟨z0, z1, z2, z3⟩, y⟩ := job_cells hT
               have y0 := y 0; have y1 := y 1; have y2 := y 2; have y3 := y 3; clear y
               have hb4s := fun a0 a1 a2 a3 => below_set4 (a0 := a0) (a1 := a1) (a2 := a2) (a3 := a3) hb4 hTs
               replace hT := Lib.hid hT; skip)
            | (have hT : w4.heap[w3.heap.size]? = some (.cells (jobA 0 (.slice none 0 0) (.slice none 0 0) false) 42 (0, 0)) := (hb4'.block w3.heap.size (by simp)).trans (new_at rfl)
               have hTs := hb3.size
               have hb4 := hb3a.trans (hb4'.mono hb3a.size)
               obtain ⟨⟨z0, z1, z2, z3⟩, y⟩ := job_cells hT
               have y0 := y 0; have y1 := y 1; have y2 := y 2; have y3 := y 3; clear y
               have hb4s := fun a0 a1 a2 a3 => below_set4 (a0 := a0) (a1 := a1) (a2 := a2) (a3 := a3) hb4 hTs
               replace hT := Lib.hid hT)
            | have hb4 := hb3.trans (hb4'.mono hb3.size)
          have hb4a := hb4.alloc hb4.size (.cells #[.int .i64 0, .slice none 0 0, .slice none 0 0, .bool false] 42)
          have hb4c := hb4.alloc hb4.size (.cells #[.int .i64 r.1.level, .slice F0 r.1.frm.length f0, .slice F1 r.1.too.length f1, .bool r.1.bottom] 42)
          clear hrf hrt
          replace hof := Lib.hid hof
          replace hot := Lib.hid hot
          replace hb4' := Lib.hid hb4')
       | (go_at_call 15
          refine (KT.out _ ?_).mono ?_
          first | exact (Below.refl _ _).drew | exact ((Below.refl _ _).alloc (Nat.le_refl _) _).drew
          rintro e w3 ⟨h, rfl, hown3, hb3'⟩
          have hlv3 : RdLv w3 h s := fun n hn => Rd.of_own (hown3 n hn)
          first
            | have hb3 : Below w2.heap.size w2 w3 := (Below.refl w2.heap.size w2).drew.trans hb3'
            | (have hb3 : Below w2.heap.size w2 w3 := ((Below.refl w2.heap.size w2).alloc (Nat.le_refl _) (.cells #[.int .i64 0, .slice none 0 0, .slice none 0 0, .bool false] 42)).drew.trans (hb3'.mono (by simp))
               have hU : w3.heap[w2.heap.size]? = some (.cells (jobA 0 (.slice none 0 0) (.slice none 0 0) false) 42 (0, 0)) := (hb3'.block w2.heap.size (by simp)).trans new_drew
               skip)
          have hb3a := hb3.alloc hb3.size (.cells #[.int .i64 0, .slice none 0 0, .slice none 0 0, .bool false] 42)
          have hlv3a := hlv3.below ((Below.refl w3.heap.size w3).alloc (Nat.le_refl _) (.cells #[.int .i64 0, .slice none 0 0, .slice none 0 0, .bool false] 42))
          try replace hU := Lib.hid hU
          replace hown3 := Lib.hid hown3))
    all_goals
      go_wp2_with fail
      go_meet
      case rel =>
        first
          | exact ⟨_, F0, f0, F1, f1, rfl, rfl, rfl, CovP.mk' hS2.out hlv2.out hB2.out (hb4s _ _ _ _) (set4_blk hT.out) (own_set4 hof.out (lt_of_at hU.out) _ _ _ _) (own_set4 hot.out (lt_of_at hU.out) _ _ _ _)⟩
          | exact ⟨_, F0, f0, F1, f1, rfl, rfl, rfl, CovP.mk' hS2.out hlv2.out hB2.out (hb4s _ _ _ _) (set4_blk hT.out) (own_set4 hof.out (by simp) _ _ _ _) (own_set4 hot.out (by simp) _ _ _ _)⟩
          | exact ⟨_, F0, f0, F1, f1, rfl, rfl, rfl, CovP.mk' hS2.out hlv2.out hB2.out hb4c (new_at rfl) (hof.out.alloc _) (hot.out.alloc _)⟩
  case rest => as_aux_lemma =>
    obtain ⟨J, F0, f0, F1, f1, rfl, rfl, rfl, hP⟩ := hcut
    clear KS KT KN hS2 hlim2 hlv2 hB2 hSlt hs1
    have hlf := hP.out.hfrm.len
    have hlt := hP.out.htoo.len
    obtain ⟨A', c', e1, hf0, hf1⟩ := hlf
    injection e1 with e0 _ e1; subst e0 e1
    obtain ⟨A', c', e1, ht0, ht1⟩ := hlt
    injection e1 with e0 _ e1; subst e0 e1
    go_wp2_with fail
    refine (picks_calls _).mono ?_
    rintro e wp ⟨rfl, hbp⟩
    have hbP := hP.out.hB.trans (hbp.mono hP.out.hB.size)
    rcases HC.out with rfl | ⟨n, hn, rfl, hfull⟩
    · clear HC
      go_wp2_with fail
      go_ret
      exact ⟨rfl, hbP⟩
    · clear HC
      have hpos := full_pos hn (limP_ok lim) hfull
      have hfl : 0 < (jobS s n).frm.length := by
        show 0 < (frmS s n).length
        unfold frmS; split
        · rename_i h; subst h; exact hpos
        · simp
      clear hfull hpos
      have hP' : Hid (CovP w wp S7 J s gf (jobS s n) (.slice F0 (jobS s n).frm.length f0) (.slice F1 (jobS s n).too.length f1)) := by
        have h := hP.out
        exact ⟨(hbp.block _ (lt_of_at h.hS)).trans h.hS, (hbp.block _ (lt_of_at h.hJ)).trans h.hJ, h.hlv.below hbp, h.hfrm.below hbp, h.htoo.below hbp, hbP⟩
      clear hP hbp hbP
      have hfl0 := HLN.out.1
      have htl0 := HLN.out.2
      by_cases hk : key.toList = []
      · have hk1 : (key.toList == []) = true := by rw [hk]; rfl
        have hk2 : key.toList.isEmpty = true := by rw [hk]; rfl
        clear hk
        go_wp2_with fail
        go_ret
        exact ⟨rfl, hP'.out.hB⟩
      · have hk1 : (key.toList == []) = false := by simpa using hk
        have hk2 : key.toList.isEmpty = false := by simpa using hk
        clear hk
        have hcov := Lib.hid (fun h1 h2 h3 => cov_main (s := s) (n := n) HWF.out hn (key := key) h1 (h := h2) h3)
        have hbot := Lib.hid (fun (hb : (jobS s n).bottom = true) k h1 h2 m hm => bottom_no (s := s) (n := n) hb (k := k) h1 h2 (m := m) hm)
        obtain ⟨frm, hfrm⟩ : ∃ frm, frm = frmS s n := ⟨_, rfl⟩
        obtain ⟨too, htoo⟩ : ∃ too, too = tooS s n := ⟨_, rfl⟩
        obtain ⟨bo, hbo⟩ : ∃ bo, bo = (jobS s n).bottom := ⟨_, rfl⟩
        have hco : ∀ f, covOk s n f = ((!(anyF frm f || anyF too f) && !anyLv s f (n + 2) (2 - n) && !anyLv s f 0 n) || (anyLv s f (n + 2) (2 - n) && bo)) := fun f => by rw [hfrm, htoo, hbo]; rfl
        have hJf : (jobS s n).frm = frm := hfrm.symm
        have hJt : (jobS s n).too = too := htoo.symm
        have hjj : jobS s n = ⟨(n : Int), frm, too, bo⟩ := by rw [hfrm, htoo, hbo]; rfl
        rw [hjj] at hP' hfl hfl0 htl0 ⊢
        rw [← hfrm, ← htoo] at hbot
        rw [← hbo] at hbot
        rw [← hfrm] at hcov
        simp only at hfl hfl0 htl0 hP' ⊢
        clear hjj hJf hJt hfrm htoo hbo
        replace hco := Lib.hid hco
        have hn2 : (n : Int) < 3 := by omega
        have KJ : ∀ W, Below wp.heap.size wp W → W.cell? ⟨J, 0, none⟩ = some (.int .i64 (n : Int)) ∧ W.cell? ⟨J, 1, none⟩ = some (.slice F0 frm.length f0) ∧ W.cell? ⟨J, 2, none⟩ = some (.slice F1 too.length f1) ∧ W.cell? ⟨J, 3, none⟩ = some (.bool bo) := fun W h => (job_cells ((h.block _ (lt_of_at hP'.out.hJ)).trans hP'.out.hJ)).1
        replace KJ := Lib.hid KJ
        obtain ⟨j0, j1, j2, j3⟩ := KJ.out _ (Below.refl _ _)
        have hfl' : ((frm.length : Int) == 0) = false := by rw [beq_eq_false_iff_ne]; omega
        go_wp2_with fail
        clear j0 j1 j2 j3
        -- loop 1
        go_loopw [11, 12] (fun s11 s12 wr => ∃ k : Nat, k ≤ frm.length ∧ s12 = .int .i64 (k : Int) ∧ s11 = .bool ((frm.take k).any (holdsB key)) ∧ Hid (Below wp.heap.size wp wr))
          (fun _ iv _ => frm.length - (intOf iv).toNat)
        case atStart => exact ⟨0, by omega, rfl, rfl, Below.refl _ _⟩
        case round => as_aux_lemma =>
          obtain ⟨k, hk, rfl, rfl, hb⟩ := hrel
          obtain ⟨j0, j1, j2, j3⟩ := KJ.out _ hb.out
          by_cases hkl : k < frm.length
          · as_aux_lemma =>
            -- [[
            have hkl' : (k : Int) < frm.length := by omega
            have h0 : (0 : Int) ≤ k := by omega
            obtain ⟨b, off, m, hA, hblt, hm, c0, c1, p2, c3⟩ := atMeta hP'.out.hfrm hb.out hkl
            subst hA
            have hnx := any_next' (p := holdsB key) hkl
            rw [hm.out] at hnx
            have ht : holdsB key m = ((Op.bytesLess m.first.toList key.toList || m.first.toList == key.toList) && (Op.bytesLess key.toList m.last.toList || key.toList == m.last.toList)) := rfl
            obtain ⟨bi, hbi⟩ : ∃ bi, (frm.take k).any (holdsB key) = bi := ⟨_, rfl⟩
            obtain ⟨b1, hb1⟩ : ∃ b1, (Op.bytesLess m.first.toList key.toList || m.first.toList == key.toList) = b1 := ⟨_, rfl⟩
            obtain ⟨b2, hb2⟩ : ∃ b2, (Op.bytesLess key.toList m.last.toList || key.toList == m.last.toList) = b2 := ⟨_, rfl⟩
            rw [ht, hb1, hb2, hbi] at hnx
            rw [hbi]
            clear ht hbi
            replace hnx := Lib.hid hnx
            replace hm := Lib.hid hm
            have hcs : bi = true ∨ (bi = false ∧ b1 = false) ∨ (bi = false ∧ b1 = true ∧ b2 = false) ∨ (bi = false ∧ b1 = true ∧ b2 = true) := by cases bi <;> cases b1 <;> cases b2 <;> simp
            rcases hcs with rfl | ⟨rfl, rfl⟩ | ⟨rfl, rfl, rfl⟩ | ⟨rfl, rfl, rfl⟩
            all_goals
              go_wp2_with fail
              go_roundw
              case rel => exact ⟨k + 1, by omega, by go_num, by rw [hnx.out]; rfl, hb⟩
              case measure => simp [intOf]; omega
            -- ]]
          · as_aux_lemma =>
            obtain rfl : k = frm.length := by omega
            rw [List.take_length]
            obtain ⟨bin, hbin⟩ : ∃ bin, frm.any (holdsB key) = bin := ⟨_, rfl⟩
            rw [hbin]
            replace hbin := Lib.hid hbin
            obtain ⟨b, off, m, hA, hblt, hm, c0, c1, p2, c3⟩ := atMeta hP'.out.hfrm hb.out hfl
            subst hA
            simp only [Nat.zero_mul, Nat.add_zero] at c0 c1 p2 c3
            have hfl2 : (0 : Int) < frm.length := by omega
            have hhd : headM frm = m := by have h := hm.out; cases frm with
              | nil => simp at hfl
              | cons x l => simpa [headM] using h
            have hsA : minF m.first frm = spanA frm := by unfold spanA; rw [hhd]
            have hsZ : maxF m.last frm = spanZ frm := by unfold spanZ; rw [hhd]
            have hsA2 : minF (spanA frm) too = spanA (frm ++ too) := by
              unfold spanA; rw [headM_append _ _ (fun e => by subst e; simp at hfl), minF_append]
            have hsZ2 : maxF (spanZ frm) too = spanZ (frm ++ too) := by
              unfold spanZ; rw [headM_append _ _ (fun e => by subst e; simp at hfl), maxF_append]
            replace hhd := Lib.hid hhd; replace hsA := Lib.hid hsA; replace hsZ := Lib.hid hsZ; replace hsA2 := Lib.hid hsA2; replace hsZ2 := Lib.hid hsZ2; replace hm := Lib.hid hm
            have hmin := @Lib.run_min_strs Try.prog
            have hmax := @Lib.run_max_strs Try.prog
            go_wp2_with fail
            go_quiet (fail)
            go_wp2_with fail
            clear c0 c1 p2 c3 j0 j1 j2 j3
            have hbs := hb
            clear hb
            -- loop 2
            go_loopw [13, 14, 15] (fun s13 s14 si wr => ∃ k : Nat, k ≤ frm.length ∧ si = .int .i64 (k : Int) ∧ s13 = .string (minF m.first (frm.take k)) ∧ s14 = .string (maxF m.last (frm.take k)) ∧ Hid (Below wp.heap.size wp wr))
              (fun _ _ iv _ => frm.length - (intOf iv).toNat)
            case atStart => exact ⟨0, by omega, rfl, rfl, rfl, below_drewN hbs.out _⟩
            case round => as_aux_lemma =>
              obtain ⟨k, hk, rfl, rfl, rfl, hb⟩ := hrel
              obtain ⟨j0, j1, j2, j3⟩ := KJ.out _ hb.out
              by_cases hkl : k < frm.length
              · as_aux_lemma =>
                -- [[
                have hkl' : (k : Int) < frm.length := by omega
                have h0 : (0 : Int) ≤ k := by omega
                obtain ⟨b', off', x, hA, hblt', hx, c0, c1, p2, c3⟩ := atMeta hP'.out.hfrm hb.out hkl
                injection hA with hA; injection hA with hA1 hA2; subst hA1 hA2
                have n1 := minF_next (a := m.first) hkl
                have n2 := maxF_next (a := m.last) hkl
                rw [hx.out] at n1 n2
                replace n1 := Lib.hid n1
                replace n2 := Lib.hid n2
                generalize minF m.first (frm.take k) = av at *
                generalize maxF m.last (frm.take k) = zv at *
                go_wp2_with fail
                go_quiet (fail)
                go_wp2_with fail
                go_roundw
                case rel => exact ⟨k + 1, by omega, by go_num, by rw [n1.out], by rw [n2.out], below_drewN hb.out _⟩
                case measure => simp [intOf]; omega
                -- ]]
              · as_aux_lemma =>
                obtain rfl : k = frm.length := by omega
                rw [List.take_length, hsA.out, hsZ.out]
                go_wp2_with fail
                clear j0 j1 j2 j3
                -- loop 3
                go_loopw [13, 14, 16] (fun s13 s14 si wr => ∃ k : Nat, k ≤ too.length ∧ si = .int .i64 (k : Int) ∧ s13 = .string (minF (spanA frm) (too.take k)) ∧ s14 = .string (maxF (spanZ frm) (too.take k)) ∧ Hid (Below wp.heap.size wp wr))
                  (fun _ _ iv _ => too.length - (intOf iv).toNat)
                case atStart => exact ⟨0, by omega, rfl, rfl, rfl, hb⟩
                case round => as_aux_lemma =>
                  obtain ⟨k, hk, rfl, rfl, rfl, hb⟩ := hrel
                  obtain ⟨j0, j1, j2, j3⟩ := KJ.out _ hb.out
                  by_cases hkl : k < too.length
                  · as_aux_lemma =>
                    -- [[
                    have hkl' : (k : Int) < too.length := by omega
                    have h0 : (0 : Int) ≤ k := by omega
                    obtain ⟨b', off', x, hA, hblt', hx, c0, c1, p2, c3⟩ := atMeta hP'.out.htoo hb.out hkl
                    subst hA
                    have n1 := minF_next (a := (spanA frm)) hkl
                    have n2 := maxF_next (a := (spanZ frm)) hkl
                    rw [hx.out] at n1 n2
                    replace n1 := Lib.hid n1
                    replace n2 := Lib.hid n2
                    generalize minF (spanA frm) (too.take k) = av at *
                    generalize maxF (spanZ frm) (too.take k) = zv at *
                    go_wp2_with fail
                    go_quiet (fail)
                    go_wp2_with fail
                    go_roundw
                    case rel => exact ⟨k + 1, by omega, by go_num, by rw [n1.out], by rw [n2.out], below_drewN hb.out _⟩
                    case measure => simp [intOf]; omega
                    -- ]]
                  · as_aux_lemma =>
                    obtain rfl : k = too.length := by omega
                    rw [List.take_length, hsA2.out, hsZ2.out]
                    go_wp2_with fail
                    clear j0 j1 j2 j3
                    generalize hAA : spanA (frm ++ too) = sa at hbot ⊢
                    generalize hZZ : spanZ (frm ++ too) = sz at hbot ⊢
                    clear hAA hZZ hsA hsZ hsA2 hsZ2 hmin hmax
                    obtain ⟨wx, rfl⟩ : ∃ wx : World, wx = wr := ⟨_, rfl⟩
                    have hbx := hb
                    obtain ⟨j0, j1, j2, j3⟩ := KJ.out _ hbx.out
                    have hn0 : (0 : Int) ≤ n := by omega
                    go_wp2_with fail
                    clear j0 j1 j2 j3
                    have KSt : ∀ W, Below wp.heap.size wp W → ∀ q, q < 4 → ∃ A c, W.cell? ⟨S7, 3 + q, none⟩ = some (.slice A (s.lv q).length c) ∧ (s.lv q).length ≤ c ∧ c ≤ 9223372036854775807 ∧ Hid (RdT W 4 metaC (.slice A (s.lv q).length c) (s.lv q)) := fun W h q hq => by
                      have h1 := st_cell ((h.block _ (lt_of_at hP'.out.hS)).trans hP'.out.hS) hq
                      have h2 := (hP'.out.hlv q hq).below h
                      obtain ⟨A, c, e, h3, h4⟩ := h2.len
                      rw [e] at h1 h2
                      exact ⟨A, c, h1, h3, h4, h2⟩
                    replace KSt := Lib.hid KSt
                    -- loop 4
                    go_loopw [17] (fun sn wr => ∃ c : Nat, c ≤ 2 - n ∧ sn = .int .i64 ((n + 2 + c : Nat) : Int) ∧ Hid (Below wp.heap.size wp wr))
                      (fun iv _ => 4 - (intOf iv).toNat)
                    case atStart => exact ⟨0, by omega, by go_num, hbx⟩
                    case round => as_aux_lemma =>
                      obtain ⟨c, hc, rfl, hb⟩ := hrel
                      obtain ⟨wo, rfl⟩ : ∃ wo : World, wo = wr := ⟨_, rfl⟩
                      obtain ⟨q, hq⟩ : ∃ q, q = n + 2 + c := ⟨_, rfl⟩
                      rw [← hq]
                      by_cases hq4 : q < 4
                      · as_aux_lemma =>
                        -- [[
                        have hq4' : (q : Int) < 4 := by omega
                        have hq0 : (0 : Int) ≤ q := by omega
                        have hnq : n + 2 ≤ q := by omega
                        have hnext : Hid (q + 1 = n + 2 + (c + 1) ∧ c + 1 ≤ 2 - n) := ⟨by omega, by omega⟩
                        clear hq hc
                        go_wp2_with fail
                        go_loopw [18] (fun sk wr => ∃ k : Nat, k ≤ (s.lv q).length ∧ sk = .int .i64 (k : Int) ∧ Hid (Below wp.heap.size wp wr))
                          (fun iv _ => (s.lv q).length - (intOf iv).toNat)
                        case atStart => exact ⟨0, by omega, rfl, hb⟩
                        case round => as_aux_lemma =>
                          clear hb
                          obtain ⟨k, hk, rfl, hb⟩ := hrel
                          obtain ⟨j0, j1, j2, j3⟩ := KJ.out _ hb.out
                          obtain ⟨A, ca, cS, hca1, hca2, hR⟩ := KSt.out _ hb.out q hq4
                          have hsz := hb.out.size
                          by_cases hkl : k < (s.lv q).length
                          · have hkl' : (k : Int) < (s.lv q).length := by omega
                            have h0 : (0 : Int) ≤ k := by omega
                            obtain ⟨b, off, x, hA, hblt, hx, c0, c1, p2, c3⟩ := atMeta hR.out (Below.refl _ _) hkl
                            subst hA
                            have hno : bo = true → ((Op.bytesLess x.first.toList sz.toList || x.first.toList == sz.toList) && !Op.bytesLess x.last.toList sa.toList) = false := fun hb => hbot.out hb q hnq hq4 x (by rw [← hx.out]; exact List.getElem_mem _)
                            obtain ⟨b1, hb1⟩ : ∃ b1, (Op.bytesLess x.first.toList sz.toList || x.first.toList == sz.toList) = b1 := ⟨_, rfl⟩
                            obtain ⟨b2, hb2⟩ : ∃ b2, Op.bytesLess x.last.toList sa.toList = b2 := ⟨_, rfl⟩
                            rw [hb1, hb2] at hno
                            have hcs : bo = false ∨ (bo = true ∧ b1 = false) ∨ (bo = true ∧ b1 = true ∧ b2 = true) := by cases bo <;> cases b1 <;> cases b2 <;> simp_all
                            clear hno
                            replace hx := Lib.hid hx
                            have j3a := fun o => (KJ.out _ (hb.out.alloc hsz o)).2.2.2
                            rcases hcs with rfl | ⟨rfl, rfl⟩ | ⟨rfl, rfl, rfl⟩
                            all_goals
                              go_wp2_with fail
                              go_roundw
                              case rel => exact ⟨k + 1, by omega, by go_num, hb.out.alloc hsz _⟩
                              case measure => simp [intOf]; omega
                          · as_aux_lemma =>
                            obtain rfl : k = (s.lv q).length := by omega
                            go_wp2_with fail
                            go_roundw
                            case rel => exact ⟨c + 1, hnext.out.2, by rw [← hnext.out.1]; go_num, hb⟩
                            case measure => simp [intOf]; omega
                        -- ]]
                      · have hq4' : ¬ (q : Int) < 4 := by omega
                        clear hq
                        rcases bin with _ | _
                        · go_wp2_with fail
                          go_ret
                          exact ⟨rfl, hP'.out.hB.trans (hb.out.mono hP'.out.hB.size)⟩
                        · have hb6 := hb
                          clear hb
                          obtain ⟨w6, rfl⟩ : ∃ w6 : World, w6 = wo := ⟨_, rfl⟩
                          have hG := KSt.out _ hb6.out
                          obtain ⟨B0, d0, e0, _, _⟩ := (hP'.out.hlv 0 (by omega)).len
                          obtain ⟨B1, d1, e1, _, _⟩ := (hP'.out.hlv 1 (by omega)).len
                          obtain ⟨B2, d2, e2, _, _⟩ := (hP'.out.hlv 2 (by omega)).len
                          obtain ⟨B3, d3, e3, _, _⟩ := (hP'.out.hlv 3 (by omega)).len
                          clear hG
                          obtain ⟨z0, z1, z2, z3, z4, z5, z6⟩ := stA_all ((hb6.out.block _ (lt_of_at hP'.out.hS)).trans hP'.out.hS)
                          have KT := to_calls s gf w6 (hP'.out.hlv.below hb6.out) HL6.out
                          rw [e0, e1, e2, e3] at KT
                          rw [e0] at z3; rw [e1] at z4; rw [e2] at z5; rw [e3] at z6
                          clear e0 e1 e2 e3
                          replace KT := Lib.hid KT
                          go_wp2_with fail
                          refine KT.out.mono ?_
                          rintro e w7 ⟨h, rfl, hown7, hb7⟩
                          clear KT z0 z1 z2 z3 z4 z5 z6
                          have hlv7 : RdLv w7 h s := fun n hn => Rd.of_own (hown7 n hn)
                          have hb7' := hb6.out.trans (hb7.mono hb6.out.size)
                          clear hown7 hb7
                          have KHo := Holding_calls s h key w7 hlv7 (fun n hn => Nat.le_trans (HGD.out.few n hn) (by omega))
                          clear hlv7
                          go_wp2_with fail
                          refine KHo.mono ?_
                          rintro e w8 ⟨vh, rfl, hownh, hb8⟩
                          clear KHo
                          have hb8' := Lib.hid (hb7'.trans (hb8.mono hb7'.size))
                          have hrh : RdT w8 4 metaC vh (holdL s key) := Rd.of_own hownh
                          obtain ⟨HL, hHL⟩ : ∃ HL, HL = holdL s key := ⟨_, rfl⟩
                          rw [← hHL] at hrh
                          have hcv : Hid (∀ x ∈ HL, ((!(anyF frm x.file || anyF too x.file) && !anyLv s x.file (n + 2) (2 - n) && !anyLv s x.file 0 n) || (anyLv s x.file (n + 2) (2 - n) && bo)) = false) := fun x hx => by
                            rw [← hco.out]
                            exact hcov.out (hbin.out) x (by rw [← hHL]; exact hx)
                          clear hownh hb8 hb7' hHL
                          obtain ⟨Ah, ch, rfl, hh0, hh1⟩ := hrh.len
                          replace hrh := Lib.hid hrh
                          go_wp2_with fail
                          -- loop 6
                          go_loopw [21] (fun si wr => ∃ i : Nat, i ≤ HL.length ∧ si = .int .i64 (i : Int) ∧ Hid (Below w8.heap.size w8 wr))
                            (fun iv _ => HL.length - (intOf iv).toNat)
                          case atStart => exact ⟨0, by omega, rfl, Below.refl _ _⟩
                          case round => as_aux_lemma =>
                            clear hb6
                            obtain ⟨i, hi, rfl, hb⟩ := hrel
                            obtain ⟨wi, rfl⟩ : ∃ wi : World, wi = wr := ⟨_, rfl⟩
                            by_cases hil : i < HL.length
                            · have hil' : (i : Int) < HL.length := by omega
                              have hi0 : (0 : Int) ≤ i := by omega
                              obtain ⟨bx, ox, x, hAx, hbx', hx, _⟩ := atMeta hrh.out (Below.refl _ _) hil
                              have hcx : Hid (_ = _) := hcv.out x (by rw [← hx.out]; exact List.getElem_mem _)
                              subst hAx
                              obtain ⟨fx, hfx⟩ : ∃ fx, fx = x.file := ⟨_, rfl⟩
                              have KX : ∀ W, Below w8.heap.size w8 W → W.cell? ⟨bx, ox + i * 4, none⟩ = some (.int .i64 fx) := fun W h => by
                                obtain ⟨b', o', x', hA', _, hx', c0, _⟩ := atMeta hrh.out h hil
                                injection hA' with hA'
                                injection hA' with h1 h2
                                subst h1 h2
                                rw [hfx, ← hx.out, hx'.out]; exact c0
                              rw [← hfx] at hcx
                              replace KX := Lib.hid KX
                              clear hx hfx
                              go_wp2_with fail
                              -- loop 7
                              go_loopw [22, 23] (fun sf sk wr => ∃ k : Nat, k ≤ frm.length ∧ sk = .int .i64 (k : Int) ∧ sf = .bool (anyF (frm.take k) fx) ∧ Hid (Below w8.heap.size w8 wr))
                                (fun _ iv _ => frm.length - (intOf iv).toNat)
                              case atStart => exact ⟨0, by omega, rfl, rfl, hb⟩
                              case round => as_aux_lemma =>
                                clear hb
                                obtain ⟨k, hk, rfl, rfl, hb⟩ := hrel
                                have hbp := hb8'.out.trans (hb.out.mono hb8'.out.size)
                                obtain ⟨j0, j1, j2, j3⟩ := KJ.out _ hbp
                                have kx := KX.out _ hb.out
                                by_cases hkl : k < frm.length
                                · as_aux_lemma =>
                                  -- [[
                                  have hkl' : (k : Int) < frm.length := by omega
                                  have h0 : (0 : Int) ≤ k := by omega
                                  obtain ⟨b', off', m, hA, hblt', hm, c0, c1, p2, c3⟩ := atMeta hP'.out.hfrm hbp hkl
                                  injection hA with hA; injection hA with hA1 hA2; subst hA1 hA2
                                  obtain ⟨be, hbe⟩ : ∃ be, (m.file == fx) = be := ⟨_, rfl⟩
                                  have hnx : (anyF (frm.take (k + 1)) fx) = ((anyF (frm.take k) fx) || be) := by
                                    show (anyF (frm.take (k + 1)) fx) = _
                                    have h1 := any_next' (p := fun y : MetaD => y.file == fx) hkl
                                    rw [hm.out, hbe] at h1
                                    unfold anyF at *
                                    rw [h1]
                                    try simp only [Bool.or_assoc]
                                  obtain ⟨bi, hbi⟩ : ∃ bi, (anyF (frm.take k) fx) = bi := ⟨_, rfl⟩
                                  rw [hbi] at hnx ⊢
                                  clear hbi
                                  replace hnx := Lib.hid hnx
                                  replace hm := Lib.hid hm
                                  rcases bi with _ | _
                                  · rcases be with _ | _
                                    all_goals
                                      go_wp2_with fail
                                      go_quiet (fail)
                                      go_wp2_with fail
                                      go_roundw
                                      case rel => exact ⟨k + 1, by omega, by go_num, by rw [hnx.out]; rfl, below_drewN hb.out _⟩
                                      case measure => simp [intOf]; omega
                                  · clear hbe
                                    go_wp2_with fail
                                    go_quiet (fail)
                                    go_wp2_with fail
                                    go_roundw
                                    case rel => exact ⟨k + 1, by omega, by go_num, by rw [hnx.out]; rfl, below_drewN hb.out _⟩
                                    case measure => simp [intOf]; omega
                                  -- ]]
                                · as_aux_lemma =>
                                  obtain rfl : k = frm.length := by omega
                                  rw [List.take_length]
                                  obtain ⟨p7, hp7⟩ : ∃ p7, anyF frm fx = p7 := ⟨_, rfl⟩
                                  rw [hp7] at hcx ⊢
                                  clear hp7
                                  go_wp2_with fail
                                  clear j0 j1 j2 j3 kx
                                  -- loop 8
                                  go_loopw [22, 24] (fun sf sk wr => ∃ k : Nat, k ≤ too.length ∧ sk = .int .i64 (k : Int) ∧ sf = .bool (p7 || anyF (too.take k) fx) ∧ Hid (Below w8.heap.size w8 wr))
                                    (fun _ iv _ => too.length - (intOf iv).toNat)
                                  case atStart => exact ⟨0, by omega, rfl, by simp [anyF], hb⟩
                                  case round => as_aux_lemma =>
                                    clear hb
                                    obtain ⟨k, hk, rfl, rfl, hb⟩ := hrel
                                    have hbp := hb8'.out.trans (hb.out.mono hb8'.out.size)
                                    obtain ⟨j0, j1, j2, j3⟩ := KJ.out _ hbp
                                    have kx := KX.out _ hb.out
                                    by_cases hkl : k < too.length
                                    · as_aux_lemma =>
                                      -- [[
                                      have hkl' : (k : Int) < too.length := by omega
                                      have h0 : (0 : Int) ≤ k := by omega
                                      obtain ⟨b, off, m, hA, hblt, hm, c0, c1, p2, c3⟩ := atMeta hP'.out.htoo hbp hkl
                                      subst hA
                                      obtain ⟨be, hbe⟩ : ∃ be, (m.file == fx) = be := ⟨_, rfl⟩
                                      have hnx : (p7 || anyF (too.take (k + 1)) fx) = ((p7 || anyF (too.take k) fx) || be) := by
                                        show (p7 || anyF (too.take (k + 1)) fx) = _
                                        have h1 := any_next' (p := fun y : MetaD => y.file == fx) hkl
                                        rw [hm.out, hbe] at h1
                                        unfold anyF at *
                                        rw [h1]
                                        try simp only [Bool.or_assoc]
                                      obtain ⟨bi, hbi⟩ : ∃ bi, (p7 || anyF (too.take k) fx) = bi := ⟨_, rfl⟩
                                      rw [hbi] at hnx ⊢
                                      clear hbi
                                      replace hnx := Lib.hid hnx
                                      replace hm := Lib.hid hm
                                      rcases bi with _ | _
                                      · rcases be with _ | _
                                        all_goals
                                          go_wp2_with fail
                                          go_quiet (fail)
                                          go_wp2_with fail
                                          go_roundw
                                          case rel => exact ⟨k + 1, by omega, by go_num, by rw [hnx.out]; rfl, below_drewN hb.out _⟩
                                          case measure => simp [intOf]; omega
                                      · clear hbe
                                        go_wp2_with fail
                                        go_quiet (fail)
                                        go_wp2_with fail
                                        go_roundw
                                        case rel => exact ⟨k + 1, by omega, by go_num, by rw [hnx.out]; rfl, below_drewN hb.out _⟩
                                        case measure => simp [intOf]; omega
                                      -- ]]
                                    · as_aux_lemma =>
                                      obtain rfl : k = too.length := by omega
                                      rw [List.take_length]
                                      obtain ⟨p8, hp8⟩ : ∃ p8, (p7 || anyF too fx) = p8 := ⟨_, rfl⟩
                                      rw [hp8] at hcx ⊢
                                      clear hp8
                                      go_wp2_with fail
                                      clear j0 j1 j2 j3 kx
                                      -- loop 9
                                      go_loopw [25, 26] (fun sd sn wr => ∃ c : Nat, c ≤ 2 - n ∧ sn = .int .i64 ((n + 2 + c : Nat) : Int) ∧ sd = .bool (anyLv s fx (n + 2) c) ∧ Hid (Below w8.heap.size w8 wr))
                                        (fun _ iv _ => 4 - (intOf iv).toNat)
                                      case atStart => exact ⟨0, by omega, by go_num, rfl, hb⟩
                                      case round => as_aux_lemma =>
                                        clear hb
                                        obtain ⟨c, hc, rfl, rfl, hb⟩ := hrel
                                        obtain ⟨w9, rfl⟩ : ∃ w9 : World, w9 = wr := ⟨_, rfl⟩
                                        obtain ⟨p9, hp9⟩ : ∃ p9, anyLv s fx (n + 2) c = p9 := ⟨_, rfl⟩
                                        have hlast : n + 2 + c = 4 → c = 2 - n := fun h => by omega
                                        obtain ⟨q, hq⟩ : ∃ q, q = n + 2 + c := ⟨_, rfl⟩
                                        have hnext9 : Hid (anyLv s fx (n + 2) (c + 1) = (p9 || anyF (s.lv q) fx)) := by show _ = _; rw [hq, ← hp9]; rfl
                                        rw [← hq, hp9]
                                        by_cases hq4 : q < 4
                                        · have hq4' : (q : Int) < 4 := by omega
                                          have hq0 : (0 : Int) ≤ q := by omega
                                          have hnext : Hid (q + 1 = n + 2 + (c + 1) ∧ c + 1 ≤ 2 - n) := ⟨by omega, by omega⟩
                                          clear hq hc hlast hp9
                                          go_wp2_with fail
                                          -- loop 10
                                          go_loopw [25, 27] (fun sf sk wr => ∃ k : Nat, k ≤ (s.lv q).length ∧ sk = .int .i64 (k : Int) ∧ sf = .bool (p9 || anyF ((s.lv q).take k) fx) ∧ Hid (Below w8.heap.size w8 wr))
                                            (fun _ iv _ => (s.lv q).length - (intOf iv).toNat)
                                          case atStart => exact ⟨0, by omega, rfl, by simp [anyF], hb⟩
                                          case round => as_aux_lemma =>
                                            clear hb
                                            obtain ⟨k, hk, rfl, rfl, hb⟩ := hrel
                                            have hbp := hb8'.out.trans (hb.out.mono hb8'.out.size)
                                            obtain ⟨j0, j1, j2, j3⟩ := KJ.out _ hbp
                                            have kx := KX.out _ hb.out
                                            obtain ⟨A, ca, cS, hca1, hca2, hR⟩ := KSt.out _ hbp q hq4
                                            by_cases hkl : k < (s.lv q).length
                                            · as_aux_lemma =>
                                              -- [[
                                              have hkl' : (k : Int) < (s.lv q).length := by omega
                                              have h0 : (0 : Int) ≤ k := by omega
                                              obtain ⟨b, off, m, hA, hblt, hm, c0, c1, p2, c3⟩ := atMeta hR.out (Below.refl _ _) hkl
                                              subst hA
                                              obtain ⟨be, hbe⟩ : ∃ be, (m.file == fx) = be := ⟨_, rfl⟩
                                              have hnx : (p9 || anyF ((s.lv q).take (k + 1)) fx) = ((p9 || anyF ((s.lv q).take k) fx) || be) := by
                                                show (p9 || anyF ((s.lv q).take (k + 1)) fx) = _
                                                have h1 := any_next' (p := fun y : MetaD => y.file == fx) hkl
                                                rw [hm.out, hbe] at h1
                                                unfold anyF at *
                                                rw [h1]
                                                try simp only [Bool.or_assoc]
                                              obtain ⟨bi, hbi⟩ : ∃ bi, (p9 || anyF ((s.lv q).take k) fx) = bi := ⟨_, rfl⟩
                                              rw [hbi] at hnx ⊢
                                              clear hbi
                                              replace hnx := Lib.hid hnx
                                              replace hm := Lib.hid hm
                                              rcases bi with _ | _
                                              · rcases be with _ | _
                                                all_goals
                                                  go_wp2_with fail
                                                  go_quiet (fail)
                                                  go_wp2_with fail
                                                  go_roundw
                                                  case rel => exact ⟨k + 1, by omega, by go_num, by rw [hnx.out]; rfl, below_drewN hb.out _⟩
                                                  case measure => simp [intOf]; omega
                                              · clear hbe
                                                go_wp2_with fail
                                                go_quiet (fail)
                                                go_wp2_with fail
                                                go_roundw
                                                case rel => exact ⟨k + 1, by omega, by go_num, by rw [hnx.out]; rfl, below_drewN hb.out _⟩
                                                case measure => simp [intOf]; omega
                                              -- ]]
                                            · as_aux_lemma =>
                                              obtain rfl : k = (s.lv q).length := by omega
                                              rw [List.take_length]
                                              go_wp2_with fail
                                              go_roundw
                                              case rel => exact ⟨c + 1, hnext.out.2, by rw [← hnext.out.1]; go_num, by rw [hnext9.out], hb⟩
                                              case measure => simp [intOf]; omega
                                        · have hq4' : ¬ (q : Int) < 4 := by omega
                                          have hc2 : c = 2 - n := by omega
                                          rw [← hc2, hp9] at hcx
                                          clear hq hp9 hc hlast hc2 hnext9
                                          go_wp2_with fail
                                          -- loop 11
                                          go_loopw [28, 29] (fun sd sn wr => ∃ c : Nat, c ≤ n ∧ sn = .int .i64 (c : Int) ∧ sd = .bool (anyLv s fx 0 c) ∧ Hid (Below w8.heap.size w8 wr))
                                            (fun _ iv _ => n - (intOf iv).toNat)
                                          case atStart => exact ⟨0, by omega, rfl, rfl, hb⟩
                                          case round => as_aux_lemma =>
                                            clear hb
                                            obtain ⟨c, hc, rfl, rfl, hb⟩ := hrel
                                            obtain ⟨w10, rfl⟩ : ∃ w10 : World, w10 = wr := ⟨_, rfl⟩
                                            have hbp := hb8'.out.trans (hb.out.mono hb8'.out.size)
                                            obtain ⟨j0, j1, j2, j3⟩ := KJ.out _ hbp
                                            obtain ⟨p11, hp11⟩ : ∃ p11, anyLv s fx 0 c = p11 := ⟨_, rfl⟩
                                            have hnext11 : Hid (anyLv s fx 0 (c + 1) = (p11 || anyF (s.lv c) fx)) := by show _ = _; rw [← hp11]; simp [anyLv]
                                            rw [hp11]
                                            by_cases hcn : c < n
                                            · have hcn' : (c : Int) < n := by omega
                                              have hc0 : (0 : Int) ≤ c := by omega
                                              have hc4 : c < 4 := by omega
                                              have hc4' : (c : Int) < 4 := by omega
                                              clear hp11
                                              go_wp2_with fail
                                              clear j0 j1 j2 j3
                                              -- loop 12
                                              go_loopw [28, 30] (fun sf sk wr => ∃ k : Nat, k ≤ (s.lv c).length ∧ sk = .int .i64 (k : Int) ∧ sf = .bool (p11 || anyF ((s.lv c).take k) fx) ∧ Hid (Below w8.heap.size w8 wr))
                                                (fun _ iv _ => (s.lv c).length - (intOf iv).toNat)
                                              case atStart => exact ⟨0, by omega, rfl, by simp [anyF], hb⟩
                                              case round => as_aux_lemma =>
                                                clear hb
                                                obtain ⟨k, hk, rfl, rfl, hb⟩ := hrel
                                                have hbp := hb8'.out.trans (hb.out.mono hb8'.out.size)
                                                obtain ⟨j0, j1, j2, j3⟩ := KJ.out _ hbp
                                                have kx := KX.out _ hb.out
                                                obtain ⟨A, ca, cS, hca1, hca2, hR⟩ := KSt.out _ hbp c hc4
                                                by_cases hkl : k < (s.lv c).length
                                                · as_aux_lemma =>
                                                  -- [[
                                                  have hkl' : (k : Int) < (s.lv c).length := by omega
                                                  have h0 : (0 : Int) ≤ k := by omega
                                                  obtain ⟨b, off, m, hA, hblt, hm, c0, c1, p2, c3⟩ := atMeta hR.out (Below.refl _ _) hkl
                                                  subst hA
                                                  obtain ⟨be, hbe⟩ : ∃ be, (m.file == fx) = be := ⟨_, rfl⟩
                                                  have hnx : (p11 || anyF ((s.lv c).take (k + 1)) fx) = ((p11 || anyF ((s.lv c).take k) fx) || be) := by
                                                    show (p11 || anyF ((s.lv c).take (k + 1)) fx) = _
                                                    have h1 := any_next' (p := fun y : MetaD => y.file == fx) hkl
                                                    rw [hm.out, hbe] at h1
                                                    unfold anyF at *
                                                    rw [h1]
                                                    try simp only [Bool.or_assoc]
                                                  obtain ⟨bi, hbi⟩ : ∃ bi, (p11 || anyF ((s.lv c).take k) fx) = bi := ⟨_, rfl⟩
                                                  rw [hbi] at hnx ⊢
                                                  clear hbi
                                                  replace hnx := Lib.hid hnx
                                                  replace hm := Lib.hid hm
                                                  rcases bi with _ | _
                                                  · rcases be with _ | _
                                                    all_goals
                                                      go_wp2_with fail
                                                      go_quiet (fail)
                                                      go_wp2_with fail
                                                      go_roundw
                                                      case rel => exact ⟨k + 1, by omega, by go_num, by rw [hnx.out]; rfl, below_drewN hb.out _⟩
                                                      case measure => simp [intOf]; omega
                                                  · clear hbe
                                                    go_wp2_with fail
                                                    go_quiet (fail)
                                                    go_wp2_with fail
                                                    go_roundw
                                                    case rel => exact ⟨k + 1, by omega, by go_num, by rw [hnx.out]; rfl, below_drewN hb.out _⟩
                                                    case measure => simp [intOf]; omega
                                                  -- ]]
                                                · as_aux_lemma =>
                                                  obtain rfl : k = (s.lv c).length := by omega
                                                  rw [List.take_length]
                                                  go_wp2_with fail
                                                  go_roundw
                                                  case rel => exact ⟨c + 1, by omega, by go_num, by rw [hnext11.out], hb⟩
                                                  case measure => simp [intOf]; omega
                                            · have hcn' : ¬ (c : Int) < n := by omega
                                              have hce : c = n := by omega
                                              rw [← hce, hp11] at hcx
                                              clear hp11 hce hnext11
                                              -- the question
                                              have hcs : (p8 = true ∧ p9 = false) ∨ (p8 = true ∧ p9 = true ∧ bo = false) ∨ (p8 = false ∧ p9 = true ∧ bo = false) ∨ (p8 = false ∧ p9 = false ∧ p11 = true) := by
                                                have := hcx.out
                                                cases p8 <;> cases p9 <;> cases p11 <;> cases bo <;> simp_all
                                              clear hcx
                                              rcases hcs with ⟨rfl, rfl⟩ | ⟨rfl, rfl, rfl⟩ | ⟨rfl, rfl, rfl⟩ | ⟨rfl, rfl, rfl⟩
                                              all_goals
                                                go_wp2_with fail
                                                go_roundw
                                                case rel => exact ⟨i + 1, by omega, by go_num, hb⟩
                                                case measure => simp [intOf]; omega
                            · obtain rfl : i = HL.length := by omega
                              go_wp2_with fail
                              refine (Full_calls ⟨0, 0⟩ 0 _).mono ?_
                              rintro e wz ⟨rfl, hbz⟩
                              go_wp2_with fail
                              go_ret
                              exact ⟨rfl, (hP'.out.hB.trans (hb8'.out.mono hP'.out.hB.size)).trans ((hb.out.trans (hbz.mono hb.out.size)).mono (Nat.le_trans hP'.out.hB.size hb8'.out.size))⟩
end Go.Proofs.Ytheanmfdfoefoaa
