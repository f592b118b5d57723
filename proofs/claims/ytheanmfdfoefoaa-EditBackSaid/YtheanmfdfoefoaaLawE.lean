/- The plain law: what is encoded is what is decoded. No program in sight. -/
import Derived.Test.YtheanmfdfoefoaaTextE
namespace Go.Proofs.Ytheanmfdfoefoaa
open Go Go.RowKit

theorem pow7 (k : Nat) (hk : k < 9) : 2 ^ (64 - 7 * k) = 128 * 2 ^ (64 - 7 * (k + 1)) := by
  have : 64 - 7 * k = (64 - 7 * (k + 1)) + 7 := by omega
  rw [this, Nat.pow_add, Nat.mul_comm]
theorem pow7_le (k : Nat) : 2 ^ (64 - 7 * k) ≤ 18446744073709551616 := Nat.pow_le_pow_right (n := 2) (j := 64) (by omega) (by omega)

theorem getF_put (rest : List UInt8) : ∀ (q k m : Nat), k ≤ 9 → q < 2 ^ (64 - 7 * k) → (0 < k → 0 < q) →
    getF (putB q ++ rest) k m = (m + q * 128 ^ k, k + (putB q).length, 0) := by
  intro q
  induction q using Nat.strongRecOn with
  | ind q ih =>
    intro k m hk hq h0
    have h64 := pow7_le k
    by_cases h : q < 128
    · rw [putB_small q h]
      have hx : (UInt8.ofNat q).toNat = q := by simp [UInt8.toNat_ofNat']; omega
      simp only [List.cons_append, List.nil_append, getF, hx, List.length_singleton]
      rw [if_neg (by omega), if_pos h, if_neg]
      rintro (⟨rfl, h9⟩ | ⟨h1, h2⟩)
      · simp at hq; omega
      · have := h0 h1; omega
    · have hk9 : k < 9 := by
        rcases Nat.lt_or_ge k 9 with h | h
        · exact h
        · obtain rfl : k = 9 := by omega
          simp at hq; omega
      rw [putB_big q (by omega) (by unfold U64; omega)]
      have hx : (UInt8.ofNat (q % 128 + 128)).toNat = q % 128 + 128 := by simp [UInt8.toNat_ofNat']; omega
      simp only [List.cons_append, getF, hx, List.length_cons]
      rw [if_neg (by omega), if_neg (by omega), ih (q / 128) (by omega) (k + 1) _ (by omega) (by rw [pow7 k hk9] at hq; omega) (by omega)]
      refine Prod.ext ?_ (Prod.ext ?_ rfl)
      · simp only [Nat.pow_succ]
        have e : q = q % 128 + 128 * (q / 128) := by omega
        have e2 : q * 128 ^ k = q % 128 * 128 ^ k + q / 128 * (128 ^ k * 128) := by
          conv => lhs; rw [e]
          rw [Nat.add_mul, Nat.mul_comm (128 ^ k) 128, ← Nat.mul_assoc, Nat.mul_comm (q / 128) 128]
        rw [e2]
        simp only [Nat.add_sub_cancel]
        omega
      · simp only; omega
theorem getB_put (q : Nat) (hq : q < 18446744073709551616) (rest : List UInt8) : getB (putB q ++ rest) = (q, (putB q).length, 0) := by
  have := getF_put rest q 0 0 (by omega) (by simpa using hq) (by omega)
  simpa [getB] using this

theorem getF_inv : ∀ (l : List UInt8) (k m : Nat), k ≤ 10 → (getF l k m).2.2 = 0 →
    ∃ q rest, l = putB q ++ rest ∧ k ≤ 9 ∧ q < 2 ^ (64 - 7 * k) ∧ (0 < k → 0 < q) ∧ getF l k m = (m + q * 128 ^ k, k + (putB q).length, 0) := by
  intro l
  induction l with
  | nil => intro k m _ h; simp only [getF] at h; split at h <;> simp at h
  | cons x l ih =>
    intro k m hk h
    have hxlt := x.toNat_lt
    simp only [getF] at h ⊢
    by_cases h10 : k = 10
    · rw [if_pos h10] at h; simp at h
    · rw [if_neg h10] at h ⊢
      by_cases hx : x.toNat < 128
      · rw [if_pos hx] at h ⊢
        by_cases hb : (k = 9 ∧ 1 < x.toNat) ∨ (0 < k ∧ x.toNat = 0)
        · rw [if_pos hb] at h; simp at h
        · rw [if_neg hb]
          refine ⟨x.toNat, l, by rw [putB_small _ hx]; simp, by omega, ?_, by omega, by rw [putB_small _ hx]; rfl⟩
          by_cases h9 : k = 9
          · subst h9; simp; omega
          · have : 2 ^ 7 ≤ 2 ^ (64 - 7 * k) := Nat.pow_le_pow_right (by omega) (by omega)
            omega
      · rw [if_neg hx] at h ⊢
        obtain ⟨q, rest, h1, h2, h3, h4, h5⟩ := ih (k + 1) _ (by omega) h
        have hk9 : k < 9 := by omega
        have h0 := h4 (by omega)
        have hp := pow7 k hk9
        have h64 := pow7_le k
        have hq : x.toNat - 128 + 128 * q < 2 ^ (64 - 7 * k) := by omega
        have e1 : (x.toNat - 128 + 128 * q) % 128 + 128 = x.toNat := by omega
        have e2 : (x.toNat - 128 + 128 * q) / 128 = q := by omega
        have hput : putB (x.toNat - 128 + 128 * q) = x :: putB q := by
          rw [putB_big _ (by omega) (by unfold U64; omega), e1, e2]
          simp
        refine ⟨x.toNat - 128 + 128 * q, rest, by rw [hput, h1]; rfl, by omega, hq, by omega, ?_⟩
        rw [h5, hput]
        refine Prod.ext ?_ (Prod.ext ?_ rfl)
        · simp only [Nat.pow_succ, Nat.add_mul]
          have : q * (128 ^ k * 128) = 128 * q * 128 ^ k := by rw [Nat.mul_comm (128 ^ k) 128, ← Nat.mul_assoc, Nat.mul_comm q 128]
          omega
        · simp only [List.length_cons]; omega
theorem getB_inv (l : List UInt8) (h : (getB l).2.2 = 0) : ∃ q rest, l = putB q ++ rest ∧ q < 18446744073709551616 ∧ getB l = (q, (putB q).length, 0) := by
  obtain ⟨q, rest, h1, _, h3, _, h5⟩ := getF_inv l 0 0 (by omega) h
  exact ⟨q, rest, h1, by simpa using h3, by simpa [getB] using h5⟩

theorem textG_put (s : ByteArray) (most : Nat) (hs : s.size ≤ most) (hm : most < 4294967296) (rest : List UInt8) : textG (textB s ++ rest) most = (s.data.toList, (textB s).length, 0) := by
  have hl : s.data.toList.length = s.size := by rw [Array.length_toList]; rfl
  have hg := getB_put s.size (by omega) (s.data.toList ++ rest)
  rw [← List.append_assoc] at hg
  unfold textG textB
  rw [hg]
  simp only [ne_eq, not_true, if_false]
  rw [if_neg (by omega), if_neg (by simp only [List.length_append]; omega), List.append_assoc, List.drop_left, ← hl, List.take_left]
  simp
theorem textG_inv (l : List UInt8) (most : Nat) (h : (textG l most).2.2 = 0) : ∃ s : List UInt8, ∃ rest, l = textB ⟨s.toArray⟩ ++ rest ∧ s.length ≤ most ∧ textG l most = (s, (textB ⟨s.toArray⟩).length, 0) := by
  rw [textG_eq] at h ⊢
  by_cases h1 : (getB l).2.2 = 0
  · rw [if_neg (by simpa using h1)] at h ⊢
    obtain ⟨q, rest, e, hq, hg⟩ := getB_inv l h1
    rw [hg] at h ⊢
    simp only at h ⊢
    by_cases h2 : most < q
    · rw [if_pos h2] at h; simp at h
    · rw [if_neg h2] at h ⊢
      by_cases h3 : l.length - (putB q).length < q
      · rw [if_pos h3] at h; simp at h
      · rw [if_neg h3]
        have hd : l.drop (putB q).length = rest := by rw [e, List.drop_left]
        rw [hd]
        have hlen : (rest.take q).length = q := by rw [List.length_take, ← hd, List.length_drop]; omega
        have hsz : (⟨(rest.take q).toArray⟩ : ByteArray).size = q := by show (rest.take q).toArray.size = q; simpa using hlen
        refine ⟨rest.take q, rest.drop q, ?_, by omega, ?_⟩
        · unfold textB
          rw [hsz]
          simp only [List.append_assoc]
          rw [e]
          congr 1
          exact (List.take_append_drop q rest).symm
        · unfold textB
          rw [hsz]
          simp only [List.length_append, Prod.mk.injEq, true_and, and_true]
          omega
  · rw [if_pos (by simpa using h1)] at h
    exact absurd h h1

end Go.Proofs.Ytheanmfdfoefoaa
