/- The law KeepShows: its walk. -/
import Derived.Test.YtpemfmlonamikaaShow
import Derived.Test.YtpemfmlonamikaaSpare
namespace Go.Proofs.Ytpemfmlonamikaa
open Go Go.RowKit

theorem take_int {w : World} {A : Option Addr} {n c : Nat} {l : List Int} (h : RdT w 1 intC (.slice A n c) l) {m : Nat} (hm : m ≤ l.length) : RdT w 1 intC (.slice A m c) (l.take m) := by
  have := RdT.cut (f := intC) h intC_len 0 m (by omega) hm
  simpa [addz] using this
theorem right_sorted {l : List CellD} (h : rightL l = true) : sortedL l = true := by
  unfold rightL at h; rw [Bool.and_eq_true] at h; exact h.2
set_option maxRecDepth 100000 in
set_option maxHeartbeats 2000000 in
theorem KeepShows_calls (l : List CellD) (looks : List Int) (bottom : Bool) (v vz : Value) (w : World) (hv : RdT w 4 cellC v l) (hz : RdT w 1 intC vz looks) :
    Calls Try.prog 3 #[v, vz, .bool bottom] w fun e w' => e = .returned (.bool true) ∧ Below w.heap.size w w' := by
  have HV := Lib.hid hv
  obtain ⟨A, c, rfl, hnc, hcm⟩ := hv.len
  have HZ := Lib.hid hz
  obtain ⟨Az, cz, rfl, hnz, hcz⟩ := hz.len
  have hsg := sort_good l
  have hss := sort_sorted l
  obtain ⟨s, hs⟩ : ∃ s, sortD l = s := ⟨_, rfl⟩
  have KSo := fun W h => sort_calls l (.slice A l.length c) W h
  rw [hs] at hsg hss
  have KSo' : ∀ W, RdT W 4 cellC (.slice A l.length c) l → Calls Try.prog 11 #[.slice A l.length c] W fun e w' => ∃ v', e = .returned v' ∧ w'.ownsRow W.heap.size 36 4 v' s.length (s.flatMap cellC) ∧ Below W.heap.size W w' := fun W h => by have := KSo W h; rw [hs] at this; exact this
  obtain ⟨m, hm⟩ : ∃ m, m = min looks.length 20 := ⟨_, rfl⟩
  have hmi : min (looks.length : Int) 20 = (m : Int) := by omega
  have hm1 : m ≤ looks.length := by omega
  have hm2 : m ≤ 20 := by omega
  obtain ⟨ls, hls⟩ : ∃ ls, looks.take m = ls := ⟨_, rfl⟩
  have hll : ls.length = m := by rw [← hls]; simp; omega
  have hzt : ∀ W, Below w.heap.size w W → RdT W 1 intC (.slice Az m cz) ls := fun W h => by rw [← hls]; exact take_int (HZ.out.below h) hm1
  have hkr : keepR s ls bottom = (keepL s ls bottom, 0) := by unfold keepR; rw [hsg.1]; rfl
  have hkl : (keepL s ls bottom).length ≤ 60 := Nat.le_trans (keep_sub _ _ _).length_le hsg.2
  have hview : ∀ a, a ∈ ls ++ [maxSeq] → viewD a [] (keepL s ls bottom) = viewD a [] s := fun a ha => keep_view hss ha
  obtain ⟨k, hk⟩ : ∃ k, keepL s ls bottom = k := ⟨_, rfl⟩
  rw [hk] at hkr hkl hview
  have KK : ∀ W vs, RdT W 4 cellC vs s → RdT W 1 intC (.slice Az m cz) ls → Calls Try.prog 12 #[vs, .slice Az m cz, .bool bottom] W (KeepPost W (k, 0)) := fun W vs h1 h2 => by
    have := Keep_calls s ls bottom vs (.slice Az m cz) W h1 h2 (by omega) (by omega)
    rw [hkr] at this; exact this
  have hsl := hsg.2
  clear hm hs hls hk hkr KSo hsg hss hv hz
  replace KSo' := Lib.hid KSo'
  replace hzt := Lib.hid hzt
  replace hview := Lib.hid hview
  replace KK := Lib.hid KK
  replace hll := Lib.hid hll
  have hmc : (m : Int) ≤ cz := by omega
  have hm0 : (0 : Int) ≤ m := by omega
  go_enter Try.func3, Try.ntmps3
  go_wp2_with fail
  refine (spares_calls _).mono ?_
  rintro e w1 ⟨rfl, hb1⟩
  go_wp2_with fail
  refine (KSo'.out w1 (HV.out.below hb1)).mono ?_
  rintro e w2 ⟨v2, rfl, hown2, hb2⟩
  have hb2' := hb1.trans (hb2.mono hb1.size)
  have hR2 : RdT w2 4 cellC v2 s := Rd.of_own hown2
  obtain ⟨A2, c2, rfl, hc21, hc22⟩ := hR2.len
  clear hown2 hb1 hb2
  replace hR2 := Lib.hid hR2
  replace hb2' := Lib.hid hb2'
  go_wp2_with fail
  refine (KK.out w2 _ hR2.out (hzt.out _ hb2'.out)).mono ?_
  rintro e w3 ⟨v3, rfl, hown3, hb3⟩
  have hb3' := hb2'.out.trans (hb3.mono hb2'.out.size)
  have hR3s := hR2.out.below hb3
  have hR3k : RdT w3 4 cellC v3 k := Rd.of_own hown3
  obtain ⟨A3, c3, rfl, hc31, hc32⟩ := hR3k.len
  clear hown3 hb3
  have KV : ∀ a W vv l', RdT W 4 cellC vv l' → l'.length ≤ 60 → Calls Try.prog 14 #[vv, .int .i64 a] W fun e w' => ∃ v', e = .returned v' ∧ w'.ownsRow W.heap.size 61 2 v' (viewD a [] l').length ((viewD a [] l').flatMap pairC) ∧ Below W.heap.size W w' := fun a W vv l' h hl => View_calls l' a vv W h (by omega)
  have KP : ∀ W vv uu l', RdT W 2 pairC vv l' → RdT W 2 pairC uu l' → Calls Try.prog 13 #[vv, uu] W fun e w' => e = .returned (.bool true) ∧ Below W.heap.size W w' := fun W vv uu l' h1 h2 => by
    have := Pairs_calls l' l' vv uu W h1 h2
    rw [samePD_refl] at this; exact this
  replace KV := Lib.hid KV
  replace KP := Lib.hid KP
  replace hR3s := Lib.hid hR3s
  replace hR3k := Lib.hid hR3k
  replace hb3' := Lib.hid hb3'
  go_wp2_with fail
  refine (KV.out maxSeq w3 _ k hR3k.out hkl).mono ?_
  rintro e w4 ⟨v4, rfl, hown4, hb4⟩
  have hR4 : RdT w4 2 pairC v4 (viewD maxSeq [] s) := by rw [← hview.out maxSeq (by simp)]; exact Rd.of_own hown4
  clear hown4
  replace hR4 := Lib.hid hR4
  replace hb4 := Lib.hid hb4
  go_wp2_with fail
  refine (KV.out maxSeq w4 _ s (hR3s.out.below hb4.out) hsl).mono ?_
  rintro e w5 ⟨v5, rfl, hown5, hb5⟩
  have hR5 : RdT w5 2 pairC v5 (viewD maxSeq [] s) := Rd.of_own hown5
  have hR4' := hR4.out.below hb5
  have hb5' := hb4.out.trans (hb5.mono hb4.out.size)
  clear hown5
  replace hR5 := Lib.hid hR5
  replace hR4' := Lib.hid hR4'
  replace hb5' := Lib.hid hb5'
  replace hb5 := Lib.hid hb5
  go_wp2_with fail
  refine (KP.out w5 _ _ _ hR4'.out hR5.out).mono ?_
  rintro e w6 ⟨rfl, hb6⟩
  have hb6' := hb5'.out.trans (hb6.mono hb5'.out.size)
  clear hR4 hR4' hR5 hb4 hb5 hb5' hb6
  replace hb6' := Lib.hid hb6'
  go_wp2_with fail
  go_loopw [9] (fun iv wr => ∃ i : Nat, i ≤ m ∧ iv = .int .i64 (i : Int) ∧ Hid (Below w3.heap.size w3 wr)) (fun iv _ => m - (intOf iv).toNat)
  case atStart => exact ⟨0, Nat.zero_le _, rfl, hb6'⟩
  case round =>
    clear hb6'
    obtain ⟨i, hi, rfl, hb⟩ := hrel
    obtain ⟨wi, rfl⟩ : ∃ wi : World, wi = wr := ⟨_, rfl⟩
    have hbw := hb3'.out.trans (hb.out.mono hb3'.out.size)
    by_cases him : i < m
    · have him' : (i : Int) < m := by omega
      have hi0 : (0 : Int) ≤ i := by omega
      obtain ⟨b, off, hA, hblt, c0⟩ := atInt (hzt.out w (Below.refl _ _)) hbw (show i < ls.length by rw [hll.out]; exact him)
      subst hA
      have hmem : ls[i]'(by rw [hll.out]; exact him) ∈ ls := List.getElem_mem _
      generalize ls[i]'(by rw [hll.out]; exact him) = a at *
      have hbi := hbw.size
      have KS : ∀ W, Below wi.heap.size wi W → W.cell? ⟨b, off + i, none⟩ = some (.int .i64 a) := fun W h => (below_at h (by omega) _).trans c0
      replace KS := Lib.hid KS
      have hva := hview.out a (by simp [hmem])
      have KVk := fun W (h : Below wi.heap.size wi W) => KV.out a W _ k (hR3k.out.below (hb.out.trans (h.mono hb.out.size))) hkl
      have KVs := fun W (h : Below wi.heap.size wi W) => KV.out a W _ s (hR3s.out.below (hb.out.trans (h.mono hb.out.size))) hsl
      rw [hva] at KVk
      replace KVk := Lib.hid KVk
      replace KVs := Lib.hid KVs
      replace hbw := Lib.hid hbw
      go_wp2_with fail
      go_region_held3 (fun W => W.cell? ⟨b, off + i, none⟩ = some (.int .i64 a))
        (first | (with_reducible exact KS.out _ (Below.refl _ _).drew) | (with_reducible exact KS.out _ hbc) | (with_reducible exact KS.out _ hbb) | (with_reducible exact KS.out _ hba))
        (first
          | (go_at_call 13
             refine (KP.out _ _ _ _ hRa2 hRb).mono ?_
             rintro e wc ⟨rfl, hbc'⟩
             have hbc := hbb.trans (hbc'.mono hbb.size)
             replace hbc' := Lib.hid hbc')
          | (go_at_call 14
             have hx := hRa
             refine (KVs.out _ hba).mono ?_
             rintro e wb ⟨vb, rfl, hownb, hbb'⟩
             have hbb := hba.trans (hbb'.mono hba.size)
             have hRb : RdT wb 2 pairC vb (viewD a [] s) := Rd.of_own hownb
             have hRa2 := RdT.below hRa hbb'
             replace hbb' := Lib.hid hbb'
             replace hownb := Lib.hid hownb)
          | (go_at_call 14
             refine (KVk.out _ (Below.refl _ _).drew).mono ?_
             rintro e wa ⟨va, rfl, howna, hba'⟩
             have hba := (Below.refl wi.heap.size wi).drew.trans hba'
             have hRa : RdT wa 2 pairC va (viewD a [] s) := Rd.of_own howna
             replace hba' := Lib.hid hba'
             replace howna := Lib.hid howna))
      go_wp2_with fail
      go_roundw
      case rel => exact ⟨i + 1, by omega, by go_num, hb.out.trans (hbc.mono hb.out.size)⟩
      case measure => simp [intOf]; omega
    · obtain rfl : i = m := by omega
      go_wp2_with fail
      go_ret
      exact ⟨rfl, hbw⟩
end Go.Proofs.Ytpemfmlonamikaa
