/- varint's readers. -/
import Derived.Test.YtmgpfckkafcllaaVarint
namespace Go.Proofs.Ytmgpfckkafcllaa
open Go Go.RowKit

def byC (b : UInt8) : List Value := [.int .u8 (b.toNat : Int)]
theorem byC_len (b : UInt8) : (byC b).length = 1 := rfl
theorem bc_flat (l : List UInt8) : l.flatMap byC = bc l := by
  induction l with
  | nil => rfl
  | cons x l ih => simp only [List.flatMap_cons, ih]; rfl
/-- A byte slice that reads l. -/
def RdB (w : World) (v : Value) (l : List UInt8) : Prop := Rd w 1 v l.length (bc l)
theorem RdB.t {w : World} {v : Value} {l : List UInt8} (h : RdB w v l) : RdT w 1 byC v l := by unfold RdT; rw [bc_flat]; exact h
theorem RdB.at {w : World} {v : Value} {l : List UInt8} (h : RdB w v l) {k : Nat} (hk : k < l.length) :
    ∃ b off c, v = .slice (some ⟨b, off, none⟩) l.length c ∧ b < w.heap.size ∧ l.length ≤ c ∧ c ≤ maxLen ∧ w.cell? ⟨b, off + k, none⟩ = some (.int .u8 (l[k].toNat : Int)) := by
  obtain ⟨b, off, c, h1, h2, h3, h4, h5⟩ := h.t.at byC_len (by omega) hk
  exact ⟨b, off, c, h1, h2, h3, h4, by simpa using h5 0 _ rfl⟩

/-! ### numbers out of bytes -/
def leV : List UInt8 → Nat
  | [] => 0
  | x :: l => x.toNat + 256 * leV l
theorem leV_snoc (l : List UInt8) (x : UInt8) : leV (l ++ [x]) = leV l + x.toNat * 256 ^ l.length := by
  induction l with
  | nil => simp [leV]
  | cons y l ih =>
    simp only [List.cons_append, leV, ih, List.length_cons, Nat.pow_succ]
    rw [Nat.mul_add, Nat.add_assoc, Nat.mul_left_comm 256, Nat.mul_comm 256 (256 ^ l.length)]
theorem leV_lt (l : List UInt8) : leV l < 256 ^ l.length := by
  induction l with
  | nil => simp [leV]
  | cons y l ih =>
    have := y.toNat_lt
    simp only [leV, List.length_cons, Nat.pow_succ]
    omega
theorem shl_add (m x s : Nat) (hm : m < 2 ^ s) (hx : m + x * 2 ^ s < 18446744073709551616) : bits .or .u64 (m : Int) (IntKind.u64.wrap ((x : Int) * 2 ^ s)) = ((m + x * 2 ^ s : Nat) : Int) := by
  have e : ((x : Int) * 2 ^ s) = ((x * 2 ^ s : Nat) : Int) := by simp
  rw [e, IntWalk.u64_in _ (by omega), u64_or_nat m (x * 2 ^ s) (by omega) (by omega)]
  congr 1
  rw [Nat.or_comm, ← Nat.shiftLeft_eq, ← Nat.shiftLeft_add_eq_or_of_lt hm, Nat.add_comm]

set_option maxRecDepth 100000 in
set_option maxHeartbeats 400000 in
theorem Whole_calls (l : List UInt8) (v : Value) (w : World) (hv : RdB w v l) (h8 : l.length ≤ 8) :
    Calls Try.prog 44 #[v] w fun e w' => e = .returned (.tuple #[.int .u64 (leV l : Int), .int .i64 0]) ∧ w = w' := by
  have HV := Lib.hid hv
  obtain ⟨A, c, rfl, hnc, hcm, q1, q2⟩ := hv
  clear q1 q2
  unfold maxLen at hcm
  have h8' : (l.length : Int) ≤ 8 := by omega
  go_enter Try.func44, Try.ntmps44
  go_wp2_with fail
  go_loop [4, 12] (fun nv iv => ∃ k : Nat, k ≤ l.length ∧ iv = .int .i64 (k : Int) ∧ nv = .int .u64 ((leV (l.take k) : Nat) : Int))
    (fun _ iv => l.length - (intOf iv).toNat)
  case atStart => exact ⟨0, Nat.zero_le _, rfl, rfl⟩
  case round =>
    obtain ⟨k, hk, rfl, rfl⟩ := hrel
    by_cases hkl : k < l.length
    · have hkl' : (k : Int) < l.length := by omega
      have h0 : (0 : Int) ≤ k := by omega
      obtain ⟨b, off, c', hA, _, _, _, c0⟩ := HV.out.at hkl
      injection hA with hA _ hcc
      subst hA hcc
      have hx : (l[k].toNat : Int) ≤ 255 := by have := l[k].toNat_lt; omega
      have hs : leV (l.take (k + 1)) = leV (l.take k) + l[k].toNat * 256 ^ k := by
        rw [List.take_succ_eq_append_getElem hkl, leV_snoc, List.length_take, Nat.min_eq_left (by omega)]
      have hb := leV_lt (l.take k)
      have hb1 := leV_lt (l.take (k + 1))
      rw [List.length_take, Nat.min_eq_left (by omega)] at hb hb1
      have h64 : 256 ^ (k + 1) ≤ 256 ^ 8 := Nat.pow_le_pow_right (by omega) (by omega)
      have hfin : bits .or .u64 (leV (l.take k) : Int) (IntKind.u64.wrap ((l[k].toNat : Int) * 2 ^ (8 * k))) = ((leV (l.take (k + 1)) : Nat) : Int) := by
        rw [shl_add _ _ _ (by rw [pow_shift]; exact hb) (by rw [pow_shift, ← hs]; omega), hs, pow_shift]
      have HF := Lib.hid hfin
      clear hfin hb hb1 h64 hs
      obtain ⟨m, hm⟩ : ∃ m, m = leV (l.take k) := ⟨_, rfl⟩
      rw [← hm] at HF ⊢
      clear hm
      go_wp2_with fail
      go_round
      case rel => exact ⟨k + 1, by omega, by go_num, by rw [HF.out]⟩
      case measure => simp [intOf]; omega
    · obtain rfl : k = l.length := by omega
      rw [List.take_length]
      go_wp2_with fail
      go_ret2
      exact ⟨rfl, rfl⟩

/-- varint.Get, from place k on, m gathered. -/
def getF : List UInt8 → Nat → Nat → Nat × Nat × Int
  | [], k, _ => if k < 10 then (0, 0, 9) else (0, 0, 2)
  | x :: r, k, m => if k = 10 then (0, 0, 2) else if x.toNat < 128 then (if (k = 9 ∧ 1 < x.toNat) ∨ (0 < k ∧ x.toNat = 0) then (0, 0, 2) else (m + x.toNat * 128 ^ k, k + 1, 0))
      else getF r (k + 1) (m + (x.toNat - 128) * 128 ^ k)
def getB (l : List UInt8) : Nat × Nat × Int := getF l 0 0
theorem getF_drop (l : List UInt8) (k m : Nat) (hk : k < l.length) : getF (l.drop k) k m = if k = 10 then (0, 0, 2) else if l[k].toNat < 128 then (if (k = 9 ∧ 1 < l[k].toNat) ∨ (0 < k ∧ l[k].toNat = 0) then (0, 0, 2) else (m + l[k].toNat * 128 ^ k, k + 1, 0))
      else getF (l.drop (k + 1)) (k + 1) (m + (l[k].toNat - 128) * 128 ^ k) := by
  rw [List.drop_eq_getElem_cons hk]; rfl
theorem pow_shift7 (s : Nat) : (2 : Nat) ^ (7 * s) = 128 ^ s := by rw [Nat.pow_mul]

set_option maxRecDepth 100000 in
set_option maxHeartbeats 400000 in
theorem Get_calls (l : List UInt8) (v : Value) (w : World) (hv : RdB w v l) :
    Calls Try.prog 54 #[v] w fun e w' => e = .returned (.tuple #[.int .u64 ((getB l).1 : Int), .int .i64 ((getB l).2.1 : Int), .int .i64 (getB l).2.2]) ∧ w = w' := by
  have HV := Lib.hid hv
  obtain ⟨A, c, rfl, hnc, hcm, q1, q2⟩ := hv
  clear q1 q2
  unfold maxLen at hcm
  have HG : Hid (getB l = getF (l.drop 0) 0 0) := rfl
  obtain ⟨r, hr⟩ : ∃ r, getB l = r := ⟨_, rfl⟩
  rw [hr] at HG ⊢
  clear hr
  go_enter Try.func54, Try.ntmps54
  go_wp2_with fail
  go_loop [5, 10] (fun nv iv => ∃ (k m : Nat) (z : Int), k ≤ l.length ∧ k ≤ 10 ∧ iv = .int .i64 (k : Int) ∧ nv = .int .u64 z ∧ Hid (k < 10 → z = m ∧ m < 128 ^ k) ∧ Hid (r = getF (l.drop k) k m))
    (fun _ iv => l.length - (intOf iv).toNat)
  case atStart => exact ⟨0, 0, 0, Nat.zero_le _, by omega, rfl, rfl, fun _ => ⟨rfl, by simp⟩, HG⟩
  case round =>
    clear HG
    obtain ⟨k, m, z, hk, hk10, rfl, rfl, hz, hr⟩ := hrel
    by_cases hkl : k < l.length
    · have hkl' : (k : Int) < l.length := by omega
      have h0 : (0 : Int) ≤ k := by omega
      obtain ⟨b, off, c', hA, _, _, _, c0⟩ := HV.out.at hkl
      injection hA with hA _ hcc
      subst hA hcc
      have hx : (l[k].toNat : Int) ≤ 255 := by have := l[k].toNat_lt; omega
      have hd := getF_drop l k m hkl
      rw [← hr.out] at hd
      obtain ⟨x, hxx⟩ : ∃ x, x = l[k].toNat := ⟨_, rfl⟩
      rw [← hxx] at c0 hx hd
      clear hxx hr
      have HD := Lib.hid hd
      clear hd
      by_cases hk1 : k = 10
      · subst hk1
        have hl10 : ¬ ((l.length : Int) < 10) := by omega
        go_wp2_with fail
        go_ret3
        have HE : r = (0, 0, 2) := by simpa using HD.out
        rw [HE]
        exact ⟨rfl, rfl⟩
      · have hk1' : ((k : Int) == 10) = false := by simp; omega
        have hk9 : (k : Int) ≤ 9 := by omega
        have HK := Lib.hid hk1
        clear hk1 hk10
        by_cases hx1 : x < 128
        · have hx1' : (x : Int) < 128 := by omega
          have GB : ((k = 9 ∧ 1 < x) ∨ (0 < k ∧ x = 0)) → r = (0, 0, 2) := fun h => by simpa [HK.out, hx1, h] using HD.out
          have GG : ¬ ((k = 9 ∧ 1 < x) ∨ (0 < k ∧ x = 0)) → r = (m + x * 128 ^ k, k + 1, 0) ∧ bits .or .u64 z (IntKind.u64.wrap ((x : Int) * 2 ^ (7 * k))) = ((m + x * 128 ^ k : Nat) : Int) := fun h => by
            refine ⟨by simpa [HK.out, hx1, h] using HD.out, ?_⟩
            obtain ⟨hz1, hz2⟩ := hz.out (by omega)
            rw [hz1, shl_add _ _ _ (by rw [pow_shift7]; exact hz2), pow_shift7]
            rw [pow_shift7]
            by_cases h9 : k = 9
            · subst h9
              have : x ≤ 1 := by omega
              have := Nat.mul_le_mul_right (128 ^ 9) this
              omega
            · have h1 : 128 ^ (k + 1) ≤ 128 ^ 9 := Nat.pow_le_pow_right (by omega) (by omega)
              have h2 : (x + 1) * 128 ^ k ≤ 128 * 128 ^ k := Nat.mul_le_mul_right _ (by omega)
              rw [Nat.pow_succ, Nat.mul_comm] at h1
              rw [Nat.add_mul] at h2
              omega
          replace GB := Lib.hid GB
          replace GG := Lib.hid GG
          clear HD HV hz
          by_cases h9 : k = 9
          · subst h9
            by_cases hx2 : 1 < x
            · have hx2' : (x : Int) > 1 := by omega
              go_wp2_with fail
              go_ret3
              rw [GB.out (by simp <;> omega)]
              exact ⟨rfl, rfl⟩
            · have hx2' : ¬ (x : Int) > 1 := by omega
              by_cases hx3 : x = 0
              · subst hx3
                go_wp2_with fail
                go_ret3
                rw [GB.out (by simp <;> omega)]
                exact ⟨rfl, rfl⟩
              · obtain rfl : x = 1 := by omega
                go_wp2_with fail
                go_ret3
                obtain ⟨g1, g2⟩ := GG.out (by simp <;> omega)
                rw [g1, ← g2]
                exact ⟨rfl, rfl⟩
          · have h9' : ((k : Int) == 9) = false := by simp; omega
            by_cases hk0 : 0 < k
            · have hk0' : (k : Int) > 0 := by omega
              by_cases hx3 : x = 0
              · subst hx3
                go_wp2_with fail
                go_ret3
                rw [GB.out (by simp <;> omega)]
                exact ⟨rfl, rfl⟩
              · have hx3' : ((x : Int) == 0) = false := by simp; omega
                go_wp2_with fail
                go_ret3
                obtain ⟨g1, g2⟩ := GG.out (by simp <;> omega)
                rw [g1, g2]
                exact ⟨rfl, rfl⟩
            · have hk0' : ¬ (k : Int) > 0 := by omega
              go_wp2_with fail
              go_ret3
              obtain ⟨g1, g2⟩ := GG.out (by simp <;> omega)
              rw [g1, g2]
              exact ⟨rfl, rfl⟩
        · have hx1' : ¬ (x : Int) < 128 := by omega
          have hp : ((x - 128 : Nat) : Int) ≤ 127 := by omega
          have hr' : Hid (r = getF (l.drop (k + 1)) (k + 1) (m + (x - 128) * 128 ^ k)) := by
            show _ = _
            simpa [HK.out, hx1] using HD.out
          have hz' : Hid (k + 1 < 10 → bits .or .u64 z (IntKind.u64.wrap (((x - 128 : Nat) : Int) * 2 ^ (7 * k))) = ((m + (x - 128) * 128 ^ k : Nat) : Int) ∧ m + (x - 128) * 128 ^ k < 128 ^ (k + 1)) := fun h => by
            obtain ⟨hz1, hz2⟩ := hz.out (by omega)
            have h1 : 128 ^ (k + 1) ≤ 128 ^ 9 := Nat.pow_le_pow_right (by omega) (by omega)
            have h2 : (x - 128 + 1) * 128 ^ k ≤ 128 * 128 ^ k := Nat.mul_le_mul_right _ (by omega)
            have h3 : m + (x - 128) * 128 ^ k < 128 ^ (k + 1) := by
              rw [Nat.pow_succ, Nat.mul_comm (128 ^ k)]
              rw [Nat.add_mul] at h2
              omega
            refine ⟨?_, h3⟩
            rw [hz1, shl_add _ _ _ (by rw [pow_shift7]; exact hz2), pow_shift7]
            rw [pow_shift7]
            omega
          have ha : Hid (bits .andNot .u8 (x : Int) 128 = ((x - 128 : Nat) : Int)) := by
            show _ = _
            have e := u8_andNot_nat x 128 (by omega) (by omega)
            have e2 : x &&& (255 - 128) = x - 128 := by
              rw [show (255 - 128 : Nat) = 2 ^ 7 - 1 from rfl, Nat.and_two_pow_sub_one_eq_mod]
              omega
            rw [e2] at e
            exact e
          clear HD HV hz
          go_wp2_with fail
          go_round
          case rel =>
            refine ⟨k + 1, m + (x - 128) * 128 ^ k, _, by omega, by omega, by go_num, rfl, ?_, hr'⟩
            rw [ha.out, IntWalk.u64_in ((x - 128 : Nat) : Int) (by omega)]
            exact hz'
          case measure => simp [intOf]; omega
    · obtain rfl : k = l.length := by omega
      have HE : Hid (r = if l.length < 10 then (0, 0, 9) else (0, 0, 2)) := by
        show _ = _
        rw [hr.out, List.drop_length]; rfl
      clear hr hz HV
      by_cases h10 : (l.length : Int) < 10
      · go_wp2_with fail
        go_ret3
        rw [HE.out, if_pos (by omega)]
        exact ⟨rfl, rfl⟩
      · go_wp2_with fail
        go_ret3
        rw [HE.out, if_neg (by omega)]
        exact ⟨rfl, rfl⟩
end Go.Proofs.Ytmgpfckkafcllaa
