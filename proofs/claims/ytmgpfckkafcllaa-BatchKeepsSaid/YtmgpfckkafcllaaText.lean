/- varint.GetText. -/
import Derived.Test.YtmgpfckkafcllaaRead
namespace Go.Proofs.Ytmgpfckkafcllaa
open Go Go.RowKit

theorem RdB.len {w : World} {A : Option Addr} {n c : Nat} {l : List UInt8} (h : RdB w (.slice A n c) l) : n = l.length ∧ n ≤ c ∧ c ≤ maxLen := by
  obtain ⟨A', c', e, h1, h2, _, _⟩ := h
  injection e with e1 e2 e3
  subst e1 e2 e3
  exact ⟨rfl, h1, h2⟩
theorem RdB.cut {w : World} {A : Option Addr} {n c : Nat} {l : List UInt8} (h : RdB w (.slice A n c) l) (k m : Nat) (hkm : k ≤ m) (hm : m ≤ l.length) :
    RdB w (.slice (if c = k then A else A.map (·.add k)) (m - k) (c - k)) ((l.drop k).take (m - k)) := by
  obtain ⟨A', c', e, h1, h2, h3, h4⟩ := h
  injection e with e1 e2 e3
  subst e1 e2 e3
  have hl : ((l.drop k).take (m - k)).length = m - k := by simp; omega
  refine ⟨if c = k then A else A.map (·.add k), c - k, by rw [hl], by rw [hl]; omega, by omega, by simp [bc], fun hn => ?_⟩
  rw [hl] at hn
  obtain ⟨ad, rfl, hc⟩ := h4 (by omega)
  rw [if_neg (by omega)]
  refine ⟨ad.add k, rfl, fun j u hu => ?_⟩
  rw [add_add']
  refine hc _ _ ?_
  simp only [bc, List.map_take, List.map_drop] at hu ⊢
  rw [List.getElem?_take] at hu
  split at hu
  · rw [List.getElem?_drop] at hu
    exact hu
  · simp at hu

theorem getF_ok : ∀ (l : List UInt8) (k m : Nat), k ≤ 10 → m < 128 ^ k → (getF l k m).1 < 18446744073709551616 ∧ (getF l k m).2.1 ≤ k + l.length ∧ ((getF l k m).2.2 = 0 ∨ (getF l k m).2.2 = 2 ∨ (getF l k m).2.2 = 9) := by
  intro l
  induction l with
  | nil => intro k m _ _; simp only [getF]; split <;> simp
  | cons x l ih =>
    intro k m hk hm
    have hx := x.toNat_lt
    simp only [getF]
    split
    · simp
    · split
      · split
        · simp
        · rename_i h10 h128 hb
          refine ⟨?_, by simp only [List.length_cons]; omega, by simp⟩
          simp only
          by_cases h9 : k = 9
          · subst h9
            have : x.toNat ≤ 1 := by omega
            have := Nat.mul_le_mul_right (128 ^ 9) this
            omega
          · have h1 : 128 ^ (k + 1) ≤ 128 ^ 9 := Nat.pow_le_pow_right (by omega) (by omega)
            have h2 : (x.toNat + 1) * 128 ^ k ≤ 128 * 128 ^ k := Nat.mul_le_mul_right _ (by omega)
            rw [Nat.pow_succ, Nat.mul_comm] at h1
            rw [Nat.add_mul] at h2
            omega
      · have h2 : (x.toNat - 128 + 1) * 128 ^ k ≤ 128 * 128 ^ k := Nat.mul_le_mul_right _ (by omega)
        have h3 : m + (x.toNat - 128) * 128 ^ k < 128 ^ (k + 1) := by
          rw [Nat.pow_succ, Nat.mul_comm (128 ^ k)]
          rw [Nat.add_mul] at h2
          omega
        obtain ⟨a, b, c⟩ := ih (k + 1) _ (by omega) h3
        exact ⟨a, by simp only [List.length_cons]; omega, c⟩
theorem getB_lt (l : List UInt8) : (getB l).1 < 18446744073709551616 := (getF_ok l 0 0 (by omega) (by simp)).1
theorem getB_le (l : List UInt8) : (getB l).2.1 ≤ l.length := by have := (getF_ok l 0 0 (by omega) (by simp)).2.1; simpa [getB] using this
theorem getB_err (l : List UInt8) : (getB l).2.2 = 0 ∨ (getB l).2.2 = 2 ∨ (getB l).2.2 = 9 := (getF_ok l 0 0 (by omega) (by simp)).2.2

/-- varint.GetText. -/
def textG (l : List UInt8) (most : Nat) : List UInt8 × Nat × Int :=
  if (getB l).2.2 ≠ 0 then ([], 0, (getB l).2.2) else if most < (getB l).1 then ([], 0, 14) else if l.length - (getB l).2.1 < (getB l).1 then ([], 0, 9)
  else ((l.drop (getB l).2.1).take (getB l).1, (getB l).2.1 + (getB l).1, 0)
theorem textG_eq (l : List UInt8) (most : Nat) : textG l most = if (getB l).2.2 ≠ 0 then ([], 0, (getB l).2.2) else if most < (getB l).1 then ([], 0, 14) else if l.length - (getB l).2.1 < (getB l).1 then ([], 0, 9)
  else ((l.drop (getB l).2.1).take (getB l).1, (getB l).2.1 + (getB l).1, 0) := rfl
theorem textG_le (l : List UInt8) (most : Nat) : (textG l most).2.1 ≤ l.length := by
  have := getB_le l
  unfold textG
  split
  · simp
  · split
    · simp
    · split
      · simp
      · simp only; omega

set_option maxRecDepth 100000 in
set_option maxHeartbeats 400000 in
theorem GetText_calls (l : List UInt8) (most : Nat) (hmost : most < 4294967296) (v : Value) (w : World) (hv : RdB w v l) :
    Calls Try.prog 45 #[v, .int .i64 (most : Int)] w fun e w' => e = .returned (.tuple #[.string ⟨(textG l most).1.toArray⟩, .int .i64 ((textG l most).2.1 : Int), .int .i64 (textG l most).2.2]) ∧ w = w' := by
  have HV := Lib.hid hv
  obtain ⟨A, c, rfl, hnc, hcm, q1, q2⟩ := hv
  clear q1 q2
  unfold maxLen at hcm
  have hle := getB_le l
  have hlt := getB_lt l
  have herr := getB_err l
  have HT := Lib.hid (textG_eq l most)
  obtain ⟨r, hr⟩ : ∃ r, textG l most = r := ⟨_, rfl⟩
  rw [hr] at HT ⊢
  clear hr
  have HC := Lib.hid (Get_calls l _ w HV.out)
  obtain ⟨g, hg⟩ : ∃ g, getB l = g := ⟨_, rfl⟩
  rw [hg] at HT HC hle hlt herr
  clear hg
  obtain ⟨n, k, e⟩ := g
  simp only at hle hlt herr
  have h0 : ¬ (most : Int) < 0 := by omega
  go_enter Try.func45, Try.ntmps45
  by_cases he : e = 0
  · subst he
    by_cases h1 : most < n
    · have h1' : (n : Int) > (most : Int) := by omega
      go_wp2_with (first
        | (go_at_call 54; refine HC.out.mono ?_; rintro e w1 ⟨rfl, rfl⟩))
      go_ret3
      have h := HT.out
      rw [if_neg (by simp), if_pos h1] at h
      rw [h]
      exact ⟨rfl, rfl⟩
    · have h1' : ¬ (n : Int) > (most : Int) := by omega
      by_cases h2 : l.length - k < n
      · have h2' : (l.length : Int) - k < n := by omega
        go_wp2_with (first
          | (go_at_call 54; refine HC.out.mono ?_; rintro e w1 ⟨rfl, rfl⟩))
        go_ret3
        have h := HT.out
        rw [if_neg (by simp), if_neg h1, if_pos h2] at h
        rw [h]
        exact ⟨rfl, rfl⟩
      · have h2' : ¬ (l.length : Int) - k < n := by omega
        have hc := HV.out.cut k (k + n) (by omega) (by omega)
        rw [Nat.add_sub_cancel_left] at hc
        have h := HT.out
        rw [if_neg (by simp), if_neg h1, if_neg h2] at h
        replace h := Lib.hid h
        clear HT
        have hcv := run_str (P := Try.prog) hc Try.underlying26 Try.underlying5 Try.underlying9
        clear hc
        by_cases hck : c = k
        · subst hck
          rw [if_pos rfl, Nat.sub_self] at hcv
          go_wp2_with (first
            | (go_at_call 54; refine HC.out.mono ?_; rintro e w1 ⟨rfl, rfl⟩))
          go_ret3
          rw [h.out]
          exact ⟨rfl, rfl⟩
        · rw [if_neg hck] at hcv
          go_wp2_with (first
            | (go_at_call 54; refine HC.out.mono ?_; rintro e w1 ⟨rfl, rfl⟩))
          go_ret3
          rw [h.out]
          exact ⟨rfl, rfl⟩
  · have he' : (e != 0) = true := by simpa using he
    go_wp2_with (first
      | (go_at_call 54; refine HC.out.mono ?_; rintro e w1 ⟨rfl, rfl⟩))
    go_ret3
    have h1 := HT.out
    rw [if_pos he] at h1
    rw [h1]
    exact ⟨rfl, rfl⟩
end Go.Proofs.Ytmgpfckkafcllaa
