/- assartref09.DocDecode. -/
import Derived.Test.YtmgpfckkafcllaaRefDecode
namespace Go.Proofs.Ytmgpfckkafcllaa
open Go Go.RowKit

theorem str_toList (l : List UInt8) : (str l).toList = l := by rw [ByteArray.toList_eq]; simp [str]
theorem cell_blk {w : World} {g : Nat} {cs : Array Value} {t : TypeId} {fr : Nat × Nat} (h : w.heap[g]? = some (.cells cs t fr)) (i : Nat) : w.cell? ⟨g, i, none⟩ = cs[i]? := by simp [World.cell?, h]
theorem str_tail (l : List UInt8) (k : Nat) : (str l).extract k l.length = str (l.drop k) := by
  rw [str_cut]
  congr 1
  exact List.take_of_length_le (by simp)

set_option maxRecDepth 100000 in
set_option maxHeartbeats 400000 in
theorem DocDecode_calls (b : List UInt8) (hbl : b.length ≤ 9223372036854775807) (w : World) :
    Calls Try.prog 13 #[.string (str b)] w fun e w' => ∃ v', e = .returned (.tuple #[.int .i64 (decB b).1, v', .int .i64 (decB b).2.2]) ∧
      w'.ownsRow w.heap.size 24 3 v' (decB b).2.1.length ((decB b).2.1.flatMap opC) ∧ Below w.heap.size w w' := by
  have hl := str_size b
  have hbl' : (b.length : Int) ≤ 9223372036854775807 := by omega
  have HD := Lib.hid (fun h => decOk_doc (b := b) h)
  have HN : Hid (¬ decOk b = true → decB b = (0, [], 2)) := fun h => if_neg h
  have HY : Hid (∀ (seq : Int) (ops : List OpD), checkB seq ops = 0 → encB seq.toNat ops = b → decB b = (seq, ops, 0)) := fun seq ops h1 h2 => by rw [← h2]; exact decB_put h1
  go_enter Try.func13, Try.ntmps13
  by_cases h12 : b.length < 12
  · have h12' : (b.length : Int) < 12 := by omega
    go_wp2_with fail
    go_ret3
    rw [HN.out (fun h => by have := (HD.out h).1; omega)]
    exact ⟨_, rfl, World.ownsRow_nil _ _ _ _, Below.refl _ _⟩
  · have h12' : ¬ (b.length : Int) < 12 := by omega
    have e8 : (str b).extract 0 8 = str (b.take 8) := by rw [str_cut]; rfl
    have e12 : (str b).extract 8 12 = str ((b.drop 8).take 4) := str_cut b 8 12
    have W1 := Lib.hid (RWhole_calls (b.take 8) w (by simp; omega))
    have W2 := Lib.hid (RWhole_calls ((b.drop 8).take 4) w (by simp; omega))
    rw [← e8] at W1
    rw [← e12] at W2
    replace e8 := Lib.hid e8
    replace e12 := Lib.hid e12
    have q1 := leV_lt (b.take 8)
    have q2 := leV_lt ((b.drop 8).take 4)
    obtain ⟨sq, hsq⟩ : ∃ sq, leV (b.take 8) = sq := ⟨_, rfl⟩
    obtain ⟨n, hn⟩ : ∃ n, leV ((b.drop 8).take 4) = n := ⟨_, rfl⟩
    rw [hsq] at W1
    rw [hn] at W2
    clear q1 q2
    have HD' : Hid (decOk b = true → sq ≤ 72057594037927935 ∧ n ≤ 200 ∧ docL n (b.drop 12) [] = some (decR b).2.2 ∧ checkB (decSeq b) (decR b).2.2 = 0 ∧ decSeq b = (sq : Int)) := fun h => by
      obtain ⟨_, _, x1, _, x2, x3, x4, x5⟩ := HD.out h
      rw [hsq] at x1 x5
      rw [hn] at x2 x3
      exact ⟨x1, x2, x3, x4, x5⟩
    clear HD hsq hn
    go_wp2_with fail
    go_at_call 28
    refine W1.out.mono ?_
    rintro e w1 ⟨rfl, rfl⟩
    go_wp2_with fail
    go_at_call 28
    refine W2.out.mono ?_
    rintro e w2 ⟨rfl, rfl⟩
    clear W1 W2
    by_cases hb1 : 200 < n
    · have hb1' : (n : Int) > 200 := by omega
      have hf := Lib.hid (HN.out (fun h => by obtain ⟨x1, x2, _⟩ := HD'.out h; omega))
      clear hb1
      go_wp2_with fail
      go_ret3
      rw [hf.out]
      exact ⟨_, rfl, World.ownsRow_nil _ _ _ _, Below.refl _ _⟩
    · have hb1' : ¬ (n : Int) > 200 := by omega
      by_cases hb2 : 4611686018427387904 < sq
      · have hb2' : (sq : Int) > 4611686018427387904 := by omega
        have hf := Lib.hid (HN.out (fun h => by obtain ⟨x1, x2, _⟩ := HD'.out h; omega))
        clear hb1 hb2
        go_wp2_with fail
        go_ret3
        rw [hf.out]
        exact ⟨_, rfl, World.ownsRow_nil _ _ _ _, Below.refl _ _⟩
      · have hb2' : ¬ (sq : Int) > 4611686018427387904 := by omega
        go_wp2_with fail
        have HR : Hid (decOk b = true → docL (n - 0) (b.drop 12) [] = some (decR b).2.2) := fun h => (HD'.out h).2.2.1
        go_loopw [9, 10, 11] (fun ov av iv wr => ∃ (k at_ : Nat) (acc : List OpD) (A : Option Addr) (c : Nat), k ≤ n ∧ at_ ≤ b.length ∧ iv = .int .i64 (k : Int) ∧ av = .int .i64 (at_ : Int) ∧ ov = .slice A acc.length c ∧ acc.length = k ∧
            wr.ownsRow w.heap.size 24 3 (.slice A acc.length c) acc.length (acc.flatMap opC) ∧ Hid (decOk b = true → docL (n - k) (b.drop at_) acc = some (decR b).2.2) ∧ Below w.heap.size w wr)
          (fun _ _ iv _ => n - (intOf iv).toNat)
        case atStart => exact ⟨0, 12, [], none, 0, Nat.zero_le _, by omega, rfl, rfl, rfl, rfl, World.ownsRow_nil _ _ _ _, HR, Below.refl _ _⟩
        case round =>
          clear HR
          obtain ⟨k, at_, acc, A', c', hk, hat, rfl, rfl, rfl, hal, hown, hr, hb⟩ := hrel
          have hsz := hb.size
          by_cases hkn : k < n
          · have hkn' : (k : Int) < n := by omega
            have hn1 : n - k = (n - (k + 1)) + 1 := by omega
            replace hal := Lib.hid hal
            by_cases hend : b.length ≤ at_
            · have hend' : (at_ : Int) ≥ b.length := by omega
              have hf := Lib.hid (HN.out (fun h => by
                have := hr.out h
                rw [hn1, List.drop_of_length_le hend] at this
                simp [docL] at this))
              clear hend hr
              go_wp2_with fail
              go_ret3
              rw [hf.out]
              exact ⟨_, rfl, World.ownsRow_nil _ _ _ _, hb⟩
            · have hend' : ¬ (at_ : Int) ≥ b.length := by omega
              have hat' : (at_ : Int) < b.length := by omega
              have hat0 : (0 : Int) ≤ at_ := by omega
              have hatl : at_ < b.length := by omega
              have hdr : b.drop at_ = b[at_] :: b.drop (at_ + 1) := List.drop_eq_getElem_cons hatl
              have hgx : (str b)[at_]'(by rw [hl]; exact hatl) = b[at_] := str_get b at_ (by rw [hl]; exact hatl)
              have hx : (b[at_].toNat : Int) ≤ 255 := by have := b[at_].toNat_lt; omega
              obtain ⟨x, hxx⟩ : ∃ x, x = b[at_] := ⟨_, rfl⟩
              rw [← hxx] at hdr hgx hx
              clear hxx
              have hstep : Hid (decOk b = true → docL ((n - (k + 1)) + 1) (x :: b.drop (at_ + 1)) acc = some (decR b).2.2) := fun h => by
                have := hr.out h
                rwa [hn1, hdr] at this
              clear hr hdr
              have T1 := fun W => RGetText_calls (b.drop (at_ + 1)) (by simp; omega) 64 (by omega) W
              have hle1 := textG_le (b.drop (at_ + 1)) 64
              rw [List.length_drop] at hle1
              rw [← str_tail] at T1
              obtain ⟨t1, ht1⟩ : ∃ t, textG (b.drop (at_ + 1)) 64 = t := ⟨_, rfl⟩
              rw [ht1] at hle1
              simp only [ht1] at T1
              obtain ⟨s1, n1, e1⟩ := t1
              simp only at hle1 T1
              replace T1 := Lib.hid T1
              by_cases he1 : e1 = 0
              · subst he1
                have hdd : (b.drop (at_ + 1)).drop n1 = b.drop (at_ + 1 + n1) := List.drop_drop ..
                have hat2 : ((at_ + 1 + n1 : Nat) : Int) ≤ b.length := by omega
                have hb40 : (acc.length + 1) * 40 ≤ 140737488355328 := by have := hal.out; omega
                by_cases hx1 : x.toNat = 1
                · rw [hx1] at hx
                  have hx1i : (x.toNat : Int) = 1 := by omega
                  have T2 := fun W => RGetText_calls (b.drop (at_ + 1 + n1)) (by simp; omega) 1000 (by omega) W
                  have hle2 := textG_le (b.drop (at_ + 1 + n1)) 1000
                  rw [List.length_drop] at hle2
                  rw [← str_tail] at T2
                  obtain ⟨t2, ht2⟩ : ∃ t, textG (b.drop (at_ + 1 + n1)) 1000 = t := ⟨_, rfl⟩
                  rw [ht2] at hle2
                  simp only [ht2] at T2
                  obtain ⟨s2, n2, e2⟩ := t2
                  simp only at hle2 T2
                  replace T2 := Lib.hid T2
                  by_cases he2 : e2 = 0
                  · subst he2
                    have hdd2 : (b.drop (at_ + 1 + n1)).drop n2 = b.drop (at_ + 1 + n1 + n2) := List.drop_drop ..
                    have hat3 : ((at_ + 1 + n1 + n2 : Nat) : Int) ≤ b.length := by omega
                    have hnx : Hid (decOk b = true → docL (n - (k + 1)) (b.drop (at_ + 1 + n1 + n2)) (acc ++ [⟨1, str s1, str s2⟩]) = some (decR b).2.2) := fun h => by
                      have := hstep.out h
                      rw [docL, ht1] at this
                      simp only [hdd] at this
                      rw [ht2] at this
                      simpa [hx1, hdd2] using this
                    clear hstep hx1 ht1 hdd ht2 hdd2
                    go_wp2_with fail
                    go_at_call 29
                    refine (T1.out _).mono ?_
                    rintro e w5 ⟨rfl, rfl⟩
                    go_wp2_with fail
                    go_at_call 29
                    refine (T2.out _).mono ?_
                    rintro e w6 ⟨rfl, rfl⟩
                    go_wp2_with (at_builtin; refine wpL_app et_ops (.tmp 92) (.tmp 94) rfl rfl ((hown.alloc _).alloc _) rfl rfl (src_blk (sz := 3) (cs := opC ⟨1, str s1, str s2⟩) (e := 24) (fr := (0, 0)) Try.underlying22 (new_at (by simp)) rfl (opC_one _)) hb40 (by simp; omega) ?_; intro v7 w7 hown7 hg7 hat7)
                    obtain ⟨A7, c7, rfl, _, _, _, _⟩ := Rd.of_own hown7
                    have hb7 := below_app ((hb.alloc hsz _).alloc (by simp; omega) _) hg7 ((hown.alloc _).alloc _) (Nat.le_refl _) (by simp; omega)
                    go_roundw
                    case rel => exact ⟨k + 1, at_ + 1 + n1 + n2, acc ++ [⟨1, str s1, str s2⟩], A7, c7, by omega, by omega, by go_num, by go_num, by simp, by have := hal.out; simp; omega, own_cast (v := .slice A7 (acc ++ [_]).length c7) (by simpa using hown7) rfl (by simp), hnx, hb7⟩
                    case measure => simp [intOf]; omega

                  · have he2' : (e2 != 0) = true := by simpa using he2
                    have hf := Lib.hid (HN.out (fun h => by
                      have := hstep.out h
                      rw [docL, ht1] at this
                      simp only [hdd] at this
                      rw [ht2] at this
                      simp [hx1, he2] at this))
                    clear hstep hx1 ht1 hdd ht2 he2
                    go_wp2_with fail
                    go_at_call 29
                    refine (T1.out _).mono ?_
                    rintro e w5 ⟨rfl, rfl⟩
                    go_wp2_with fail
                    go_at_call 29
                    refine (T2.out _).mono ?_
                    rintro e w6 ⟨rfl, rfl⟩
                    go_wp2_with fail
                    go_ret3
                    rw [hf.out]
                    exact ⟨_, rfl, World.ownsRow_nil _ _ _ _, hb.alloc hsz _⟩
                · have hx1' : ((x.toNat : Int) == 1) = false := by simp; omega
                  have hnx : Hid (decOk b = true → docL (n - (k + 1)) (b.drop (at_ + 1 + n1)) (acc ++ [⟨x.toNat, str s1, ⟨#[]⟩⟩]) = some (decR b).2.2) := fun h => by
                    have := hstep.out h
                    rw [docL, ht1] at this
                    simpa [hx1, hdd] using this
                  clear hstep hx1 ht1 hdd
                  go_wp2_with fail
                  go_at_call 29
                  refine (T1.out _).mono ?_
                  rintro e w5 ⟨rfl, rfl⟩
                  go_wp2_with (at_builtin; refine wpL_app et_ops (.tmp 92) (.tmp 94) rfl rfl ((hown.alloc _).alloc _) rfl rfl (src_blk (sz := 3) (cs := opC ⟨(x.toNat : Int), str s1, ⟨#[]⟩⟩) (e := 24) (fr := (0, 0)) Try.underlying22 (new_at (by simp)) rfl (opC_one _)) hb40 (by simp; omega) ?_; intro v7 w7 hown7 hg7 hat7)
                  obtain ⟨A7, c7, rfl, _, _, _, _⟩ := Rd.of_own hown7
                  have hb7 := below_app ((hb.alloc hsz _).alloc (by simp; omega) _) hg7 ((hown.alloc _).alloc _) (Nat.le_refl _) (by simp; omega)
                  go_roundw
                  case rel => exact ⟨k + 1, at_ + 1 + n1, acc ++ [⟨(x.toNat : Int), str s1, ⟨#[]⟩⟩], A7, c7, by omega, by omega, by go_num, by go_num, by simp, by have := hal.out; simp; omega, own_cast (v := .slice A7 (acc ++ [_]).length c7) (by simpa using hown7) rfl (by simp), hnx, hb7⟩
                  case measure => simp [intOf]; omega
              · have he1' : (e1 != 0) = true := by simpa using he1
                have hf := Lib.hid (HN.out (fun h => by
                  have := hstep.out h
                  rw [docL, ht1] at this
                  simp [he1] at this))
                clear hstep he1 ht1
                go_wp2_with fail
                go_at_call 29
                refine (T1.out _).mono ?_
                rintro e w5 ⟨rfl, rfl⟩
                go_wp2_with fail
                go_ret3
                rw [hf.out]
                exact ⟨_, rfl, World.ownsRow_nil _ _ _ _, hb.alloc hsz _⟩
          · obtain rfl : k = n := by omega
            replace hal := Lib.hid hal
            have hfin : Hid (decOk b = true → checkB (sq : Int) acc = 0 ∧ encB (sq : Int).toNat acc = b) := fun h => by
              have h1 := hr.out h
              rw [Nat.sub_self, docL] at h1
              injection h1 with h1
              obtain ⟨_, _, _, x4, x5⟩ := HD'.out h
              have x6 := (decOk_inv h).2
              rw [x5, ← h1] at x4 x6
              exact ⟨x4, x6⟩
            clear hr HD'
            have hq : ∀ a : Bool, a = a := fun _ => rfl
            clear hq
            go_wp2_with fail
            go_at_call 12
            refine (DocEncode_calls (sq : Int) acc _ wr (Rd.of_own hown)).mono ?_
            by_cases hc : checkB (sq : Int) acc = 0
            · have hc' : (checkB (sq : Int) acc != 0) = false := by simp [hc]
              have hen : encR (sq : Int) acc = encB (sq : Int).toNat acc := if_pos hc
              rw [hen]
              by_cases hcmp : encB (sq : Int).toNat acc = b
              · have hdec := Lib.hid (HY.out _ _ hc hcmp)
                rw [hcmp]
                clear hc hen hcmp hfin
                rintro e w3 ⟨rfl, hb3⟩
                go_wp2_with fail
                go_ret3
                rw [hdec.out]
                exact ⟨_, rfl, own_below hown hb3 (Nat.le_refl _), hb.trans (hb3.mono hsz)⟩
              · have hf := Lib.hid (HN.out (fun h => hcmp (hfin.out h).2))
                have hne : ((str (encB (sq : Int).toNat acc)).toList == (str b).toList) = false := by rw [str_toList, str_toList]; simpa using hcmp
                generalize encB (sq : Int).toNat acc = ee at *
                clear hc hen hcmp hfin
                rintro e w3 ⟨rfl, hb3⟩
                go_wp2_with fail
                go_ret3
                rw [hf.out]
                exact ⟨_, rfl, World.ownsRow_nil _ _ _ _, hb.trans (hb3.mono hsz)⟩
            · have hc' : (checkB (sq : Int) acc != 0) = true := by simpa using hc
              have hf := Lib.hid (HN.out (fun h => hc (hfin.out h).1))
              clear hc hfin
              rintro e w3 ⟨rfl, hb3⟩
              go_wp2_with fail
              go_ret3
              rw [hf.out]
              exact ⟨_, rfl, World.ownsRow_nil _ _ _ _, hb.trans (hb3.mono hsz)⟩
end Go.Proofs.Ytmgpfckkafcllaa
