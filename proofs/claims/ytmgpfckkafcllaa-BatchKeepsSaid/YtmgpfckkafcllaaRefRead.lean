/- The document's readers and Fixed, Text. -/
import Derived.Test.YtmgpfckkafcllaaRefNum
namespace Go.Proofs.Ytmgpfckkafcllaa
open Go Go.RowKit

theorem str_get (l : List UInt8) (j : Nat) (h : j < (str l).size) : (str l)[j]'h = l[j]'(by rwa [str_size] at h) := rfl
theorem str_cut (l : List UInt8) (k m : Nat) : (str l).extract k m = str ((l.drop k).take (m - k)) := by
  apply ByteArray.ext
  simp [str]
theorem str_cat (a : List UInt8) (s : ByteArray) : str a ++ s = str (a ++ s.data.toList) := by
  apply ByteArray.ext
  simp [str]

set_option maxRecDepth 100000 in
set_option maxHeartbeats 400000 in
theorem RText_calls (s : ByteArray) (hs : s.size ≤ 140737488351232) (w : World) :
    Calls Try.prog 27 #[.string s] w fun e w' => e = .returned (.string (str (textB s))) ∧ Below w.heap.size w w' := by
  have hl := putB_length s.size
  have hadd : (9223372036854775807 < (str (putB s.size)).size + s.size) = False := by rw [str_size]; simp; omega
  clear hl
  go_enter Try.func27, Try.ntmps27
  go_wp2_with (go_at_call 42; refine (RPut_calls s.size (by unfold U64; omega) _).mono ?_; rintro e w1 ⟨rfl, hb1⟩)
  go_ret
  exact ⟨by rw [str_cat]; rfl, hb1⟩

set_option maxRecDepth 100000 in
set_option maxHeartbeats 400000 in
theorem RFixed_calls (n s : Nat) (hn : n < 256 ^ s) (hs : s ≤ 8) (w : World) :
    Calls Try.prog 26 #[.int .u64 (n : Int), .int .i64 (s : Int)] w fun e w' => e = .returned (.tuple #[.string (str (leB s n)), .int .i64 0]) ∧ Below w.heap.size w w' := by
  have hz : n / 256 ^ s = 0 := Nat.div_eq_of_lt hn
  have h0 : (0 : Int) ≤ s := by omega
  have h8a : (s : Int) ≤ 8 := by omega
  have HZ := Lib.hid hz
  have hn8 : Hid (n < 18446744073709551616) := Nat.lt_of_lt_of_le hn (show 256 ^ s ≤ 256 ^ 8 from Nat.pow_le_pow_right (by omega) hs)
  clear hz hn
  go_enter Try.func26, Try.ntmps26
  go_wp2_with fail
  go_loopw [0, 6, 7] (fun nv bv iv wr => ∃ k : Nat, k ≤ s ∧ iv = .int .i64 (k : Int) ∧ nv = .int .u64 ((n / 256 ^ k : Nat) : Int) ∧ wr.ownsRow w.heap.size 5 1 bv k (bc (leB k n)) ∧ Below w.heap.size w wr)
    (fun _ _ iv _ => s - (intOf iv).toNat)
  case atStart => exact ⟨0, Nat.zero_le _, rfl, by simp, World.ownsRow_nil _ _ _ _, Below.refl _ _⟩
  case round =>
    obtain ⟨k, hk, rfl, rfl, hown, hb⟩ := hrel
    have hsz := hb.size
    obtain ⟨m, hm⟩ : ∃ m, m = n / 256 ^ k := ⟨_, rfl⟩
    rw [← hm]
    have HM := Lib.hid hm
    clear hm
    by_cases hks : k < s
    · have hks' : (k : Int) < s := by omega
      go_wp2_with (first
        | (at_builtin; refine wpL_app et_bytes (.tmp 19) (.tmp 23) rfl rfl (hown.alloc _) rfl rfl (src_one Try.underlying26 rfl rfl (by simp)) (by omega) (by simp; omega) ?_; intro v1 w1 hown1 hg1 hat1))
      go_roundw
      case rel =>
        exact ⟨k + 1, by omega, by go_num, by
          have h1 : m ≤ n := by rw [HM.out]; exact Nat.div_le_self _ _
          have h2 := hn8.out
          rw [Nat.pow_succ, ← Nat.div_div_eq_div_mul, ← HM.out, IntWalk.u64_in _ (by omega)]; rfl, own_cast hown1 rfl (by rw [leB_snoc, bc_append, ← HM.out, bc_byte]), below_app (hb.alloc hsz _) hg1 (hown.alloc _) (Nat.le_refl _) (by simp; omega)⟩
      case measure => simp [intOf]; omega
    · obtain rfl : k = s := by omega
      have hks' : ¬ (k : Int) < k := by omega
      obtain rfl : m = 0 := by rw [HM.out, HZ.out]
      have hcv := run_str (P := Try.prog) (Rd.of_own hown) Try.underlying26 Try.underlying5 Try.underlying9
      go_wp2_with fail
      go_ret2
      exact ⟨rfl, hb⟩

set_option maxRecDepth 100000 in
set_option maxHeartbeats 400000 in
theorem RWhole_calls (l : List UInt8) (w : World) (h8 : l.length ≤ 8) :
    Calls Try.prog 28 #[.string (str l)] w fun e w' => e = .returned (.tuple #[.int .u64 (leV l : Int), .int .i64 0]) ∧ w = w' := by
  have hl := str_size l
  have h8' : (l.length : Int) ≤ 8 := by omega
  go_enter Try.func28, Try.ntmps28
  go_wp2_with fail
  go_loop [4, 5] (fun nv iv => ∃ k : Nat, k ≤ l.length ∧ iv = .int .i64 ((k : Int) - 1) ∧ nv = .int .u64 ((leV (l.drop k) : Nat) : Int))
    (fun _ iv => (intOf iv + 1).toNat)
  case atStart => exact ⟨l.length, Nat.le_refl _, rfl, by simp [leV]⟩
  case round =>
    obtain ⟨k, hk, rfl, rfl⟩ := hrel
    by_cases hk0 : k = 0
    · subst hk0
      go_wp2_with fail
      go_ret2
      exact ⟨rfl, rfl⟩
    · obtain ⟨j, rfl⟩ : ∃ j, k = j + 1 := ⟨k - 1, by omega⟩
      have hj : j < l.length := by omega
      have hd : leV (l.drop j) = l[j].toNat + 256 * leV (l.drop (j + 1)) := by rw [List.drop_eq_getElem_cons hj]; rfl
      have hb := leV_lt (l.drop j)
      have hb2 : 256 ^ (l.drop j).length ≤ 256 ^ 8 := Nat.pow_le_pow_right (by omega) (by simp; omega)
      replace hd := Lib.hid hd
      replace hb := Lib.hid hb
      replace hb2 := Lib.hid hb2
      go_wp2_with fail
      go_round
      case rel =>
        refine ⟨j, by omega, rfl, ?_⟩
        have h1 := hd.out
        have h2 := hb.out
        have h3 := hb2.out
        rw [str_get l j (by rw [hl]; exact hj), IntWalk.u64_in (((leV (l.drop (j + 1)) : Nat) : Int) * 256) (by omega), IntWalk.u64_in ((l[j].toNat : Nat) : Int) (by omega), IntWalk.u64_in _ (by omega)]
        congr 1
        omega
      case measure => simp [intOf]

/-- A number by its bytes' lower seven bits. -/
def lo : List UInt8 → Nat
  | [] => 0
  | x :: l => x.toNat % 128 + 128 * lo l
theorem lo_snoc (l : List UInt8) (x : UInt8) : lo (l ++ [x]) = lo l + x.toNat % 128 * 128 ^ l.length := by
  induction l with
  | nil => simp [lo]
  | cons y l ih =>
    simp only [List.cons_append, lo, ih, List.length_cons, Nat.pow_succ]
    rw [Nat.mul_add, Nat.add_assoc, Nat.mul_left_comm 128, Nat.mul_comm 128 (128 ^ l.length)]
theorem lo_drop (l : List UInt8) (i : Nat) : lo (l.drop i) ≤ lo l := by
  induction i generalizing l with
  | zero => simp
  | succ i ih =>
    cases l with
    | nil => simp
    | cons x l => simp only [List.drop_succ_cons, lo]; have := ih l; omega

set_option maxRecDepth 100000 in
set_option maxHeartbeats 400000 in
theorem RGet_calls (l : List UInt8) (hlm : l.length ≤ 9223372036854775807) (w : World) :
    Calls Try.prog 43 #[.string (str l)] w fun e w' => e = .returned (.tuple #[.int .u64 ((getB l).1 : Int), .int .i64 ((getB l).2.1 : Int), .int .i64 (getB l).2.2]) ∧ w = w' := by
  have hl := str_size l
  have hlm' : (l.length : Int) ≤ 9223372036854775807 := by omega
  have hlt := Lib.hid (getB_lt l)
  have HG : Hid (getB l = getF (l.drop 0) 0 (lo (l.take 0))) := rfl
  obtain ⟨r, hr⟩ : ∃ r, getB l = r := ⟨_, rfl⟩
  rw [hr] at HG hlt ⊢
  clear hr
  go_enter Try.func43, Try.ntmps43
  go_wp2_with fail
  go_loop [5] (fun iv => ∃ (k : Nat), k ≤ l.length ∧ k ≤ 10 ∧ iv = .int .i64 (k : Int) ∧ Hid (r = getF (l.drop k) k (lo (l.take k))))
    (fun iv => 11 - (intOf iv).toNat)
  case atStart => exact ⟨0, Nat.zero_le _, by omega, rfl, HG⟩
  case round =>
    clear HG
    obtain ⟨k, hk, hk10, rfl, hr⟩ := hrel
    by_cases hkl : k < l.length
    · have hkl' : (k : Int) < l.length := by omega
      have h0 : (0 : Int) ≤ k := by omega
      have hd := getF_drop l k (lo (l.take k)) hkl
      rw [← hr.out] at hd
      have hsn : lo (l.take (k + 1)) = lo (l.take k) + l[k].toNat % 128 * 128 ^ k := by
        rw [List.take_succ_eq_append_getElem hkl, lo_snoc, List.length_take, Nat.min_eq_left (by omega)]
      have hgx : (str l)[k]'(by rw [hl]; exact hkl) = l[k] := str_get l k (by rw [hl]; exact hkl)
      have hx : (l[k].toNat : Int) ≤ 255 := by have := l[k].toNat_lt; omega
      obtain ⟨x, hxx⟩ : ∃ x, x = l[k] := ⟨_, rfl⟩
      rw [← hxx] at hx hd hsn hgx
      replace hd := Lib.hid hd
      replace hsn := Lib.hid hsn
      clear hxx
      by_cases hk1 : k = 10
      · subst hk1
        have hl10 : ¬ ((l.length : Int) < 10) := by omega
        go_wp2_with fail
        go_ret3
        have HE : r = (0, 0, 2) := by simpa using hd.out
        rw [HE]
        exact ⟨rfl, rfl⟩
      · have hk9 : (k : Int) < 10 := by omega
        replace hk1 := Lib.hid hk1
        by_cases hx1 : x.toNat < 128
        · have hx1' : ¬ (x.toNat : Int) ≥ 128 := by omega
          have GB : ((k = 9 ∧ 1 < x.toNat) ∨ (0 < k ∧ x.toNat = 0)) → r = (0, 0, 2) := fun h => by simpa [hk1.out, hx1, h] using hd.out
          have GG : ¬ ((k = 9 ∧ 1 < x.toNat) ∨ (0 < k ∧ x.toNat = 0)) → r = (lo (l.take (k + 1)), k + 1, 0) ∧ lo (l.take (k + 1)) < 18446744073709551616 := fun h => by
            have h1 : r = (lo (l.take (k + 1)), k + 1, 0) := by
              rw [hsn.out, Nat.mod_eq_of_lt hx1]
              simpa [hk1.out, hx1, h] using hd.out
            refine ⟨h1, ?_⟩
            have := hlt.out
            rw [h1] at this
            exact this
          replace GB := Lib.hid GB
          replace GG := Lib.hid GG
          clear hd hsn hlt hr
          obtain ⟨t, ht⟩ : ∃ t, l.take (k + 1) = t := ⟨_, rfl⟩
          rw [ht] at GG
          have htl : t.length = k + 1 := by rw [← ht]; simp; omega
          have hgt : ∀ j, j < k + 1 → ∃ h1 : j < (str l).size, ∃ h2 : j < t.length, (str l)[j]'h1 = t[j]'h2 := by
            intro j hj
            refine ⟨by rw [hl]; omega, by omega, ?_⟩
            rw [str_get]
            subst ht
            simp
          replace hgt := Lib.hid hgt
          replace htl := Lib.hid htl
          clear ht
          by_cases hbad : (k = 9 ∧ 1 < x.toNat) ∨ (0 < k ∧ x.toNat = 0)
          · have HE := Lib.hid (GB.out hbad)
            clear GB GG hgt htl
            by_cases hk9' : k = 9
            · subst hk9'
              by_cases hx2 : (x.toNat : Int) > 1
              · clear hbad
                go_wp2_with fail
                go_ret3
                rw [HE.out]
                exact ⟨rfl, rfl⟩
              · have hx3 : ((x.toNat : Int) == 0) = true := by simp; omega
                clear hbad
                go_wp2_with fail
                go_ret3
                rw [HE.out]
                exact ⟨rfl, rfl⟩
            · have h9 : ((k : Int) == 9) = false := by simp; omega
              have hk0 : (k : Int) > 0 := by omega
              have hx3 : ((x.toNat : Int) == 0) = true := by simp; omega
              clear hbad hk9'
              go_wp2_with fail
              go_ret3
              rw [HE.out]
              exact ⟨rfl, rfl⟩
          · obtain ⟨g1, g2⟩ := GG.out hbad
            clear GB GG
            replace g1 := Lib.hid g1
            replace g2 := Lib.hid g2
            have hcase : (k = 9 ∧ x.toNat = 1) ∨ (k ≠ 9 ∧ 0 < k ∧ x.toNat ≠ 0) ∨ k = 0 := by omega
            clear hbad
            rcases hcase with ⟨q1, q2⟩ | ⟨q1, q2, q3⟩ | q1
            · have h9a : ((k : Int) == 9) = true := by simp; omega
              have h9b : ¬ (x.toNat : Int) > 1 := by omega
              have hk0 : (k : Int) > 0 := by omega
              have hx0 : ((x.toNat : Int) == 0) = false := by simp; omega
              clear q1 q2
              go_wp2_with fail
              go_loop [6, 7] (fun nv iv => ∃ i : Nat, i ≤ k + 1 ∧ iv = .int .i64 ((i : Int) - 1) ∧ nv = .int .u64 ((lo (t.drop i) : Nat) : Int)) (fun _ iv => (intOf iv + 1).toNat)
              case atStart => exact ⟨k + 1, Nat.le_refl _, by go_num, by have := htl.out; rw [List.drop_of_length_le (by omega)]; rfl⟩
              case round =>
                obtain ⟨i, hi, rfl, rfl⟩ := hrel
                by_cases hi0 : i = 0
                · subst hi0
                  go_wp2_with fail
                  go_ret3
                  rw [g1.out]
                  exact ⟨by simp, rfl⟩
                · obtain ⟨j, rfl⟩ : ∃ j, i = j + 1 := ⟨i - 1, by omega⟩
                  have hjl : (j : Int) < l.length := by omega
                  have hj0 : (0 : Int) ≤ j := by omega
                  obtain ⟨e1, e2, e3⟩ := hgt.out j (by omega)
                  have hd : lo (t.drop j) = t[j].toNat % 128 + 128 * lo (t.drop (j + 1)) := by rw [List.drop_eq_getElem_cons e2]; rfl
                  have hb := lo_drop t j
                  have hy : (t[j].toNat : Int) ≤ 255 := by have := t[j].toNat_lt; omega
                  obtain ⟨y, hyy⟩ : ∃ y, y = t[j] := ⟨_, rfl⟩
                  rw [← hyy] at hd hy e3
                  clear hyy
                  replace hd := Lib.hid hd
                  replace hb := Lib.hid hb
                  go_wp2_with fail
                  go_round
                  case rel =>
                    refine ⟨j, by omega, rfl, ?_⟩
                    have h1 := hd.out
                    have h2 := hb.out
                    have h3 := g2.out
                    rw [IntWalk.u64_in (((lo (t.drop (j + 1)) : Nat) : Int) * 128) (by omega), IntWalk.u64_in _ (by omega), h1]
                    congr 1
                    omega
                  case measure => simp [intOf]
            · have h9a : ((k : Int) == 9) = false := by simp; omega
              have hk0 : (k : Int) > 0 := by omega
              have hx0 : ((x.toNat : Int) == 0) = false := by simp; omega
              clear q1 q2 q3
              go_wp2_with fail
              go_loop [6, 7] (fun nv iv => ∃ i : Nat, i ≤ k + 1 ∧ iv = .int .i64 ((i : Int) - 1) ∧ nv = .int .u64 ((lo (t.drop i) : Nat) : Int)) (fun _ iv => (intOf iv + 1).toNat)
              case atStart => exact ⟨k + 1, Nat.le_refl _, by go_num, by have := htl.out; rw [List.drop_of_length_le (by omega)]; rfl⟩
              case round =>
                obtain ⟨i, hi, rfl, rfl⟩ := hrel
                by_cases hi0 : i = 0
                · subst hi0
                  go_wp2_with fail
                  go_ret3
                  rw [g1.out]
                  exact ⟨by simp, rfl⟩
                · obtain ⟨j, rfl⟩ : ∃ j, i = j + 1 := ⟨i - 1, by omega⟩
                  have hjl : (j : Int) < l.length := by omega
                  have hj0 : (0 : Int) ≤ j := by omega
                  obtain ⟨e1, e2, e3⟩ := hgt.out j (by omega)
                  have hd : lo (t.drop j) = t[j].toNat % 128 + 128 * lo (t.drop (j + 1)) := by rw [List.drop_eq_getElem_cons e2]; rfl
                  have hb := lo_drop t j
                  have hy : (t[j].toNat : Int) ≤ 255 := by have := t[j].toNat_lt; omega
                  obtain ⟨y, hyy⟩ : ∃ y, y = t[j] := ⟨_, rfl⟩
                  rw [← hyy] at hd hy e3
                  clear hyy
                  replace hd := Lib.hid hd
                  replace hb := Lib.hid hb
                  go_wp2_with fail
                  go_round
                  case rel =>
                    refine ⟨j, by omega, rfl, ?_⟩
                    have h1 := hd.out
                    have h2 := hb.out
                    have h3 := g2.out
                    rw [IntWalk.u64_in (((lo (t.drop (j + 1)) : Nat) : Int) * 128) (by omega), IntWalk.u64_in _ (by omega), h1]
                    congr 1
                    omega
                  case measure => simp [intOf]
            · have h9a : ((k : Int) == 9) = false := by simp; omega
              have hk0 : ¬ (k : Int) > 0 := by omega
              clear q1
              go_wp2_with fail
              go_loop [6, 7] (fun nv iv => ∃ i : Nat, i ≤ k + 1 ∧ iv = .int .i64 ((i : Int) - 1) ∧ nv = .int .u64 ((lo (t.drop i) : Nat) : Int)) (fun _ iv => (intOf iv + 1).toNat)
              case atStart => exact ⟨k + 1, Nat.le_refl _, by go_num, by have := htl.out; rw [List.drop_of_length_le (by omega)]; rfl⟩
              case round =>
                obtain ⟨i, hi, rfl, rfl⟩ := hrel
                by_cases hi0 : i = 0
                · subst hi0
                  go_wp2_with fail
                  go_ret3
                  rw [g1.out]
                  exact ⟨by simp, rfl⟩
                · obtain ⟨j, rfl⟩ : ∃ j, i = j + 1 := ⟨i - 1, by omega⟩
                  have hjl : (j : Int) < l.length := by omega
                  have hj0 : (0 : Int) ≤ j := by omega
                  obtain ⟨e1, e2, e3⟩ := hgt.out j (by omega)
                  have hd : lo (t.drop j) = t[j].toNat % 128 + 128 * lo (t.drop (j + 1)) := by rw [List.drop_eq_getElem_cons e2]; rfl
                  have hb := lo_drop t j
                  have hy : (t[j].toNat : Int) ≤ 255 := by have := t[j].toNat_lt; omega
                  obtain ⟨y, hyy⟩ : ∃ y, y = t[j] := ⟨_, rfl⟩
                  rw [← hyy] at hd hy e3
                  clear hyy
                  replace hd := Lib.hid hd
                  replace hb := Lib.hid hb
                  go_wp2_with fail
                  go_round
                  case rel =>
                    refine ⟨j, by omega, rfl, ?_⟩
                    have h1 := hd.out
                    have h2 := hb.out
                    have h3 := g2.out
                    rw [IntWalk.u64_in (((lo (t.drop (j + 1)) : Nat) : Int) * 128) (by omega), IntWalk.u64_in _ (by omega), h1]
                    congr 1
                    omega
                  case measure => simp [intOf]
        · have hx1' : (x.toNat : Int) ≥ 128 := by omega
          have hr' : Hid (r = getF (l.drop (k + 1)) (k + 1) (lo (l.take (k + 1)))) := by
            show _ = _
            have e : x.toNat % 128 = x.toNat - 128 := by omega
            rw [hsn.out, e]
            simpa [hk1.out, hx1] using hd.out
          clear hd hsn hlt hr
          go_wp2_with fail
          go_round
          case rel => exact ⟨k + 1, by omega, by omega, by go_num, hr'⟩
          case measure => simp [intOf]; omega
    · obtain rfl : k = l.length := by omega
      have HE : Hid (r = if l.length < 10 then (0, 0, 9) else (0, 0, 2)) := by
        show _ = _
        rw [hr.out, List.drop_length]; rfl
      clear hr hlt
      by_cases h10 : (l.length : Int) < 10
      · go_wp2_with fail
        go_ret3
        rw [HE.out, if_pos (by omega)]
        exact ⟨rfl, rfl⟩
      · go_wp2_with fail
        go_ret3
        rw [HE.out, if_neg (by omega)]
        exact ⟨rfl, rfl⟩

set_option maxRecDepth 100000 in
set_option maxHeartbeats 400000 in
theorem RGetText_calls (l : List UInt8) (hlm : l.length ≤ 9223372036854775807) (most : Nat) (hmost : most < 4294967296) (w : World) :
    Calls Try.prog 29 #[.string (str l), .int .i64 (most : Int)] w fun e w' => e = .returned (.tuple #[.string (str (textG l most).1), .int .i64 ((textG l most).2.1 : Int), .int .i64 (textG l most).2.2]) ∧ w = w' := by
  have hl := str_size l
  have hlm' : (l.length : Int) ≤ 9223372036854775807 := by omega
  have hle := getB_le l
  have hlt := getB_lt l
  have HT := Lib.hid (textG_eq l most)
  obtain ⟨r, hr⟩ : ∃ r, textG l most = r := ⟨_, rfl⟩
  rw [hr] at HT ⊢
  clear hr
  have HC := Lib.hid (RGet_calls l hlm w)
  obtain ⟨g, hg⟩ : ∃ g, getB l = g := ⟨_, rfl⟩
  rw [hg] at HT HC hle hlt
  clear hg
  obtain ⟨n, k, e⟩ := g
  simp only at hle hlt
  have h0 : ¬ (most : Int) < 0 := by omega
  go_enter Try.func29, Try.ntmps29
  by_cases he : e = 0
  · subst he
    by_cases h1 : most < n
    · have h1' : (n : Int) > (most : Int) := by omega
      go_wp2_with (first
        | (go_at_call 43; refine HC.out.mono ?_; rintro e w1 ⟨rfl, rfl⟩))
      go_ret3
      have h := HT.out
      rw [if_neg (by simp), if_pos h1] at h
      rw [h]
      exact ⟨rfl, rfl⟩
    · have h1' : ¬ (n : Int) > (most : Int) := by omega
      by_cases h2 : l.length - k < n
      · have h2' : (l.length : Int) - k < n := by omega
        go_wp2_with (first
          | (go_at_call 43; refine HC.out.mono ?_; rintro e w1 ⟨rfl, rfl⟩))
        go_ret3
        have h := HT.out
        rw [if_neg (by simp), if_neg h1, if_pos h2] at h
        rw [h]
        exact ⟨rfl, rfl⟩
      · have h2' : ¬ (l.length : Int) - k < n := by omega
        have h := HT.out
        rw [if_neg (by simp), if_neg h1, if_neg h2] at h
        replace h := Lib.hid h
        clear HT
        go_wp2_with (first
          | (go_at_call 43; refine HC.out.mono ?_; rintro e w1 ⟨rfl, rfl⟩))
        go_ret3
        rw [h.out]
        refine ⟨?_, rfl⟩
        have hx := str_cut l k (k + n)
        rw [Nat.add_sub_cancel_left] at hx
        simp only [← hx]
        rfl
  · have he' : (e != 0) = true := by simpa using he
    go_wp2_with (first
      | (go_at_call 43; refine HC.out.mono ?_; rintro e w1 ⟨rfl, rfl⟩))
    go_ret3
    have h1 := HT.out
    rw [if_pos he] at h1
    rw [h1]
    exact ⟨rfl, rfl⟩
end Go.Proofs.Ytmgpfckkafcllaa
