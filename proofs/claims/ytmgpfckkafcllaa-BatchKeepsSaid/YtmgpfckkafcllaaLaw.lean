/- The plain law: what is encoded is what is decoded. No program in sight. -/
import Derived.Test.YtmgpfckkafcllaaDecode
import Derived.Test.YtmgpfckkafcllaaEncode
namespace Go.Proofs.Ytmgpfckkafcllaa
open Go Go.RowKit

theorem pow7 (k : Nat) (hk : k < 9) : 2 ^ (64 - 7 * k) = 128 * 2 ^ (64 - 7 * (k + 1)) := by
  have : 64 - 7 * k = (64 - 7 * (k + 1)) + 7 := by omega
  rw [this, Nat.pow_add, Nat.mul_comm]
theorem pow7_le (k : Nat) : 2 ^ (64 - 7 * k) ≤ 18446744073709551616 := Nat.pow_le_pow_right (n := 2) (j := 64) (by omega) (by omega)

theorem getF_put (rest : List UInt8) : ∀ (q k m : Nat), k ≤ 9 → q < 2 ^ (64 - 7 * k) → (0 < k → 0 < q) →
    getF (putB q ++ rest) k m = (m + q * 128 ^ k, k + (putB q).length, 0) := by
  intro q
  induction q using Nat.strongRecOn with
  | ind q ih =>
    intro k m hk hq h0
    have h64 := pow7_le k
    by_cases h : q < 128
    · rw [putB_small q h]
      have hx : (UInt8.ofNat q).toNat = q := by simp [UInt8.toNat_ofNat']; omega
      simp only [List.cons_append, List.nil_append, getF, hx, List.length_singleton]
      rw [if_neg (by omega), if_pos h, if_neg]
      rintro (⟨rfl, h9⟩ | ⟨h1, h2⟩)
      · simp at hq; omega
      · have := h0 h1; omega
    · have hk9 : k < 9 := by
        rcases Nat.lt_or_ge k 9 with h | h
        · exact h
        · obtain rfl : k = 9 := by omega
          simp at hq; omega
      rw [putB_big q (by omega) (by unfold U64; omega)]
      have hx : (UInt8.ofNat (q % 128 + 128)).toNat = q % 128 + 128 := by simp [UInt8.toNat_ofNat']; omega
      simp only [List.cons_append, getF, hx, List.length_cons]
      rw [if_neg (by omega), if_neg (by omega), ih (q / 128) (by omega) (k + 1) _ (by omega) (by rw [pow7 k hk9] at hq; omega) (by omega)]
      refine Prod.ext ?_ (Prod.ext ?_ rfl)
      · simp only [Nat.pow_succ]
        have e : q = q % 128 + 128 * (q / 128) := by omega
        have e2 : q * 128 ^ k = q % 128 * 128 ^ k + q / 128 * (128 ^ k * 128) := by
          conv => lhs; rw [e]
          rw [Nat.add_mul, Nat.mul_comm (128 ^ k) 128, ← Nat.mul_assoc, Nat.mul_comm (q / 128) 128]
        rw [e2]
        simp only [Nat.add_sub_cancel]
        omega
      · simp only; omega
theorem getB_put (q : Nat) (hq : q < 18446744073709551616) (rest : List UInt8) : getB (putB q ++ rest) = (q, (putB q).length, 0) := by
  have := getF_put rest q 0 0 (by omega) (by simpa using hq) (by omega)
  simpa [getB] using this

theorem getF_inv : ∀ (l : List UInt8) (k m : Nat), k ≤ 10 → (getF l k m).2.2 = 0 →
    ∃ q rest, l = putB q ++ rest ∧ k ≤ 9 ∧ q < 2 ^ (64 - 7 * k) ∧ (0 < k → 0 < q) ∧ getF l k m = (m + q * 128 ^ k, k + (putB q).length, 0) := by
  intro l
  induction l with
  | nil => intro k m _ h; simp only [getF] at h; split at h <;> simp at h
  | cons x l ih =>
    intro k m hk h
    have hxlt := x.toNat_lt
    simp only [getF] at h ⊢
    by_cases h10 : k = 10
    · rw [if_pos h10] at h; simp at h
    · rw [if_neg h10] at h ⊢
      by_cases hx : x.toNat < 128
      · rw [if_pos hx] at h ⊢
        by_cases hb : (k = 9 ∧ 1 < x.toNat) ∨ (0 < k ∧ x.toNat = 0)
        · rw [if_pos hb] at h; simp at h
        · rw [if_neg hb]
          refine ⟨x.toNat, l, by rw [putB_small _ hx]; simp, by omega, ?_, by omega, by rw [putB_small _ hx]; rfl⟩
          by_cases h9 : k = 9
          · subst h9; simp; omega
          · have : 2 ^ 7 ≤ 2 ^ (64 - 7 * k) := Nat.pow_le_pow_right (by omega) (by omega)
            omega
      · rw [if_neg hx] at h ⊢
        obtain ⟨q, rest, h1, h2, h3, h4, h5⟩ := ih (k + 1) _ (by omega) h
        have hk9 : k < 9 := by omega
        have h0 := h4 (by omega)
        have hp := pow7 k hk9
        have h64 := pow7_le k
        have hq : x.toNat - 128 + 128 * q < 2 ^ (64 - 7 * k) := by omega
        have e1 : (x.toNat - 128 + 128 * q) % 128 + 128 = x.toNat := by omega
        have e2 : (x.toNat - 128 + 128 * q) / 128 = q := by omega
        have hput : putB (x.toNat - 128 + 128 * q) = x :: putB q := by
          rw [putB_big _ (by omega) (by unfold U64; omega), e1, e2]
          simp
        refine ⟨x.toNat - 128 + 128 * q, rest, by rw [hput, h1]; rfl, by omega, hq, by omega, ?_⟩
        rw [h5, hput]
        refine Prod.ext ?_ (Prod.ext ?_ rfl)
        · simp only [Nat.pow_succ, Nat.add_mul]
          have : q * (128 ^ k * 128) = 128 * q * 128 ^ k := by rw [Nat.mul_comm (128 ^ k) 128, ← Nat.mul_assoc, Nat.mul_comm q 128]
          omega
        · simp only [List.length_cons]; omega
theorem getB_inv (l : List UInt8) (h : (getB l).2.2 = 0) : ∃ q rest, l = putB q ++ rest ∧ q < 18446744073709551616 ∧ getB l = (q, (putB q).length, 0) := by
  obtain ⟨q, rest, h1, _, h3, _, h5⟩ := getF_inv l 0 0 (by omega) h
  exact ⟨q, rest, h1, by simpa using h3, by simpa [getB] using h5⟩

theorem textG_put (s : ByteArray) (most : Nat) (hs : s.size ≤ most) (hm : most < 4294967296) (rest : List UInt8) : textG (textB s ++ rest) most = (s.data.toList, (textB s).length, 0) := by
  have hl : s.data.toList.length = s.size := by rw [Array.length_toList]; rfl
  have hg := getB_put s.size (by omega) (s.data.toList ++ rest)
  rw [← List.append_assoc] at hg
  unfold textG textB
  rw [hg]
  simp only [ne_eq, not_true, if_false]
  rw [if_neg (by omega), if_neg (by simp only [List.length_append]; omega), List.append_assoc, List.drop_left, ← hl, List.take_left]
  simp
theorem textG_inv (l : List UInt8) (most : Nat) (h : (textG l most).2.2 = 0) : ∃ s : List UInt8, ∃ rest, l = textB ⟨s.toArray⟩ ++ rest ∧ s.length ≤ most ∧ textG l most = (s, (textB ⟨s.toArray⟩).length, 0) := by
  rw [textG_eq] at h ⊢
  by_cases h1 : (getB l).2.2 = 0
  · rw [if_neg (by simpa using h1)] at h ⊢
    obtain ⟨q, rest, e, hq, hg⟩ := getB_inv l h1
    rw [hg] at h ⊢
    simp only at h ⊢
    by_cases h2 : most < q
    · rw [if_pos h2] at h; simp at h
    · rw [if_neg h2] at h ⊢
      by_cases h3 : l.length - (putB q).length < q
      · rw [if_pos h3] at h; simp at h
      · rw [if_neg h3]
        have hd : l.drop (putB q).length = rest := by rw [e, List.drop_left]
        rw [hd]
        have hlen : (rest.take q).length = q := by rw [List.length_take, ← hd, List.length_drop]; omega
        have hsz : (⟨(rest.take q).toArray⟩ : ByteArray).size = q := by show (rest.take q).toArray.size = q; simpa using hlen
        refine ⟨rest.take q, rest.drop q, ?_, by omega, ?_⟩
        · unfold textB
          rw [hsz]
          simp only [List.append_assoc]
          rw [e]
          congr 1
          exact (List.take_append_drop q rest).symm
        · unfold textB
          rw [hsz]
          simp only [List.length_append, Prod.mk.injEq, true_and, and_true]
          omega
  · rw [if_pos (by simpa using h1)] at h
    exact absurd h h1

theorem leV_leB : ∀ (s n : Nat), n < 256 ^ s → leV (leB s n) = n := by
  intro s
  induction s with
  | zero => intro n hn; simp at hn; subst hn; rfl
  | succ s ih =>
    intro n hn
    have : n / 256 < 256 ^ s := by rw [Nat.div_lt_iff_lt_mul (by omega), ← Nat.pow_succ]; exact hn
    simp only [leB, leV, ih _ this, UInt8.toNat_ofNat']
    omega
theorem leB_leV : ∀ (l : List UInt8), leB l.length (leV l) = l := by
  intro l
  induction l with
  | nil => rfl
  | cons x l ih =>
    have := x.toNat_lt
    simp only [List.length_cons, leB, leV]
    rw [show (x.toNat + 256 * leV l) / 256 = leV l by omega, ih]
    congr 1
    apply UInt8.toNat_inj.1
    rw [UInt8.toNat_ofNat']
    omega
theorem fixedS_le (s n : Nat) (hn : n < 256 ^ s) (bad : Bool) (rest : List UInt8) : fixedS (leB s n ++ rest) bad s = (n, rest, bad) := by
  have hl := leB_length s n
  unfold fixedS
  rw [if_neg (by rw [List.length_append]; omega)]
  have e1 : (leB s n ++ rest).take s = leB s n := by
    rw [List.take_append_of_le_length (by omega)]; exact List.take_of_length_le (by omega)
  have e2 : (leB s n ++ rest).drop s = rest := by
    rw [List.drop_append_of_le_length (by omega), List.drop_of_length_le (by omega)]; rfl
  rw [e1, e2, leV_leB s n hn]
theorem fixedS_inv (l : List UInt8) (bad : Bool) (s : Nat) (h : (fixedS l bad s).2.2 = false) : bad = false ∧ l = leB s (fixedS l bad s).1 ++ (fixedS l bad s).2.1 := by
  unfold fixedS at h ⊢
  by_cases hs : l.length < s
  · rw [if_pos hs] at h; simp at h
  · rw [if_neg hs] at h ⊢
    refine ⟨h, ?_⟩
    have e := leB_leV (l.take s)
    rw [List.length_take, Nat.min_eq_left (by omega)] at e
    simp only [e]
    exact (List.take_append_drop s l).symm
theorem textS_put (s : ByteArray) (most : Nat) (hs : s.size ≤ most) (hm : most < 4294967296) (bad : Bool) (rest : List UInt8) : textS (textB s ++ rest) bad most = (s.data.toList, rest, bad) := by
  unfold textS
  rw [textG_put s most hs hm]
  simp
theorem textS_inv (l : List UInt8) (bad : Bool) (most : Nat) (h : (textS l bad most).2.2 = false) :
    bad = false ∧ l = textB ⟨(textS l bad most).1.toArray⟩ ++ (textS l bad most).2.1 ∧ (textS l bad most).1.length ≤ most := by
  unfold textS at h ⊢
  simp only [Bool.or_eq_false_iff] at h
  obtain ⟨h1, h2⟩ := h
  obtain ⟨s, rest, e, hle, hg⟩ := textG_inv l most (by simpa using h2)
  refine ⟨h1, ?_⟩
  rw [hg]
  refine ⟨?_, hle⟩
  simp only
  rw [e, List.drop_left]

/-- A change as Check lets it by. -/
def OpOk (o : OpD) : Prop := o.key.size ≤ 64 ∧ o.val.size ≤ 1000 ∧ (o.kind = 0 ∨ o.kind = 1) ∧ (o.kind = 0 → o.val.size = 0)
theorem ba_empty (s : ByteArray) (h : s.size = 0) : s = ⟨#[]⟩ := by
  apply ByteArray.ext
  exact Array.eq_empty_of_size_eq_zero h
theorem ba_back (s : ByteArray) : (⟨s.data.toList.toArray⟩ : ByteArray) = s := rfl
theorem takeOp_put (o : OpD) (ho : OpOk o) (rest : List UInt8) : takeOp (opB o ++ rest) false = (o, rest, false) := by
  obtain ⟨h1, h2, h3, h4⟩ := ho
  unfold opB takeOp
  rcases h3 with h3 | h3
  · have hv := ba_empty o.val (h4 h3)
    have e1 : ∀ r : List UInt8, fixedS (UInt8.ofNat o.kind.toNat :: r) false 1 = (0, r, false) := fun r => by
      rw [h3]; exact fixedS_le 1 0 (by decide) false r
    simp only [List.cons_append, e1, List.append_assoc]
    rw [if_neg (by decide), if_neg (by omega), textS_put _ _ h1 (by decide)]
    obtain ⟨k, key, val⟩ := o
    simp only at h3 hv
    subst h3 hv
    rfl
  · have e1 : ∀ r : List UInt8, fixedS (UInt8.ofNat o.kind.toNat :: r) false 1 = (1, r, false) := fun r => by
      rw [h3]; exact fixedS_le 1 1 (by decide) false r
    simp only [List.cons_append, e1, List.append_assoc]
    rw [if_pos (by decide), if_pos h3, textS_put _ _ h1 (by decide)]
    simp only
    rw [textS_put _ _ h2 (by decide)]
    obtain ⟨k, key, val⟩ := o
    simp only at h3
    subst h3
    rfl
theorem takeOp_inv (l : List UInt8) (h : (takeOp l false).2.2 = false) (hk : (takeOp l false).1.kind = 0 ∨ (takeOp l false).1.kind = 1) : l = opB (takeOp l false).1 ++ (takeOp l false).2.1 := by
  unfold takeOp at h hk ⊢
  simp only at h hk ⊢
  by_cases h1 : ((fixedS l false 1).1 : Int) = 1
  · simp only [if_pos h1] at h ⊢
    obtain ⟨i1, i2, _⟩ := textS_inv _ _ _ h
    obtain ⟨j1, j2, _⟩ := textS_inv _ _ _ i1
    obtain ⟨_, f2⟩ := fixedS_inv _ _ _ j1
    unfold opB
    simp only [if_true]
    conv => lhs; rw [f2, j2, i2]
    rw [show (fixedS l false 1).1 = 1 by omega]
    simp [leB]
  · simp only [if_neg h1] at h hk ⊢
    obtain ⟨j1, j2, _⟩ := textS_inv _ _ _ h
    obtain ⟨_, f2⟩ := fixedS_inv _ _ _ j1
    have h0 : (fixedS l false 1).1 = 0 := by omega
    unfold opB
    simp only [if_neg h1]
    conv => lhs; rw [f2, j2]
    rw [h0]
    simp [leB]
theorem decL_put : ∀ (l : List OpD), (∀ o ∈ l, OpOk o) → ∀ (rest : List UInt8) (acc : List OpD), decL l.length (l.flatMap opB ++ rest) false acc = (rest, false, acc ++ l) := by
  intro l
  induction l with
  | nil => intro _ rest acc; simp [decL]
  | cons o l ih =>
    intro ho rest acc
    have e : (o :: l).flatMap opB ++ rest = opB o ++ (l.flatMap opB ++ rest) := by simp
    rw [e, List.length_cons, decL, if_neg (by decide), takeOp_put o (ho o (by simp))]
    simp only
    rw [ih (fun x hx => ho x (by simp [hx]))]
    simp
theorem decL_inv : ∀ (n : Nat) (l : List UInt8) (bad : Bool) (acc : List OpD), (decL n l bad acc).2.1 = false → (∀ o ∈ (decL n l bad acc).2.2, o.kind = 0 ∨ o.kind = 1) →
    bad = false ∧ ∃ ops, (decL n l bad acc).2.2 = acc ++ ops ∧ ops.length = n ∧ l = ops.flatMap opB ++ (decL n l bad acc).1 := by
  intro n
  induction n with
  | zero => intro l bad acc h _; exact ⟨h, [], by simp [decL], rfl, by simp [decL]⟩
  | succ n ih =>
    intro l bad acc h hk
    cases bad with
    | true => simp [decL] at h
    | false =>
      simp only [decL, Bool.false_eq_true, if_false] at h hk ⊢
      obtain ⟨i1, ops, i2, i3, i4⟩ := ih _ _ _ h hk
      refine ⟨trivial, (takeOp l false).1 :: ops, by rw [i2]; simp, by simp [i3], ?_⟩
      have hko := hk (takeOp l false).1 (by rw [i2]; simp)
      have := takeOp_inv l i1 hko
      conv => lhs; rw [this, i4]
      simp
theorem decR_put (seq : Nat) (hs : seq < 256 ^ 8) (l : List OpD) (hl : l.length < 256 ^ 4) (ho : ∀ o ∈ l, OpOk o) (rest : List UInt8) :
    (fixedS (encB seq l ++ rest) false 8).1 = seq ∧ decR (encB seq l ++ rest) = (rest, false, l) := by
  have e1 : fixedS (encB seq l ++ rest) false 8 = (seq, leB 4 l.length ++ (l.flatMap opB ++ rest), false) := by
    unfold encB
    simp only [List.append_assoc]
    exact fixedS_le 8 seq hs false _
  refine ⟨by rw [e1], ?_⟩
  unfold decR
  rw [e1]
  simp only
  rw [fixedS_le 4 l.length hl]
  simp only
  rw [decL_put l ho]
  simp
theorem ok_of_check {seq : Int} {l : List OpD} (h : checkB seq l = 0) : (∀ o ∈ l, OpOk o) ∧ l.length < 256 ^ 4 ∧ seq.toNat < 256 ^ 8 ∧ ((seq.toNat : Nat) : Int) = seq ∧ wrap64 seq = seq := by
  obtain ⟨⟨h1, h2, h3⟩, h4, h5, h6⟩ := checkB_zero h
  refine ⟨fun o ho => ⟨(h6 o ho).2.1, (h6 o ho).2.2.1, (h6 o ho).2.2.2.1, (h6 o ho).2.2.2.2⟩, ?_, ?_, by omega, ?_⟩
  · have : (256 : Nat) ^ 4 = 4294967296 := by decide
    omega
  · have : (256 : Nat) ^ 8 = 18446744073709551616 := by decide
    omega
  · unfold wrap64; omega
theorem decB_put {seq : Int} {l : List OpD} (h : checkB seq l = 0) : decB (encB seq.toNat l) = (seq, l, 0) := by
  obtain ⟨h1, h2, h3, h4, h5⟩ := ok_of_check h
  obtain ⟨e1, e2⟩ := decR_put seq.toNat h3 l h2 h1 []
  rw [List.append_nil] at e1 e2
  have hseq : decSeq (encB seq.toNat l) = seq := by unfold decSeq; rw [e1, h4, h5]
  unfold decB decOk
  rw [e2, hseq]
  simp [h]
theorem decB_more {seq : Int} {l : List OpD} (h : checkB seq l = 0) {rest : List UInt8} (hr : rest ≠ []) : decB (encB seq.toNat l ++ rest) = (0, [], 2) := by
  obtain ⟨h1, h2, h3, h4, h5⟩ := ok_of_check h
  obtain ⟨e1, e2⟩ := decR_put seq.toNat h3 l h2 h1 rest
  unfold decB decOk
  rw [e2]
  cases rest with
  | nil => simp at hr
  | cons x r => simp
theorem decOk_inv {b : List UInt8} (h : decOk b = true) : checkB (decSeq b) (decR b).2.2 = 0 ∧ encB (decSeq b).toNat (decR b).2.2 = b := by
  unfold decOk at h
  simp only [Bool.and_eq_true, Bool.not_eq_true', List.isEmpty_iff, beq_iff_eq] at h
  obtain ⟨⟨h1, h2⟩, h3⟩ := h
  refine ⟨h3, ?_⟩
  obtain ⟨⟨s1, s2, s3⟩, h4, h5, h6⟩ := checkB_zero h3
  have hd : decR b = decL (fixedS (fixedS b false 8).2.1 (fixedS b false 8).2.2 4).1 (fixedS (fixedS b false 8).2.1 (fixedS b false 8).2.2 4).2.1 (fixedS (fixedS b false 8).2.1 (fixedS b false 8).2.2 4).2.2 [] := rfl
  have hlt := fixedS_lt b false 8
  have hseq : decSeq b = wrap64 ((fixedS b false 8).1 : Int) := rfl
  obtain ⟨i1, ops, i2, i3, i4⟩ := decL_inv _ _ _ _ (by rw [← hd]; exact h1) (fun o ho => (h6 o (by rw [hd]; exact ho)).2.2.2.1)
  obtain ⟨j1, j2⟩ := fixedS_inv _ _ _ i1
  obtain ⟨_, k2⟩ := fixedS_inv _ _ _ j1
  rw [← hd] at i2 i4
  rw [h2] at i4
  rw [List.nil_append] at i2
  rw [List.append_nil] at i4
  have hn : (decSeq b).toNat = (fixedS b false 8).1 := by
    rw [hseq] at s1 s2 ⊢
    have : (256 : Nat) ^ 8 = 18446744073709551616 := by decide
    unfold wrap64 at *
    omega
  unfold encB
  rw [hn, i2, i3, List.append_assoc, ← i4, ← j2, ← k2]
theorem decB_less {seq : Int} {l : List OpD} (h : checkB seq l = 0) : decB ((encB seq.toNat l).take ((encB seq.toNat l).length - 1)) = (0, [], 2) := by
  unfold decB
  rw [if_neg]
  intro hok
  obtain ⟨g1, g2⟩ := decOk_inv hok
  obtain ⟨h1, h2, h3, h4, h5⟩ := ok_of_check h
  obtain ⟨_, e2⟩ := decR_put seq.toNat h3 l h2 h1 []
  rw [List.append_nil] at e2
  obtain ⟨m1, m2, m3, _, _⟩ := ok_of_check g1
  have hlen : (encB seq.toNat l).length ≠ 0 := by simp [encB, leB_length]
  obtain ⟨_, d2⟩ := decR_put _ m3 _ m2 m1 ((encB seq.toNat l).drop ((encB seq.toNat l).length - 1))
  rw [g2, List.take_append_drop, e2] at d2
  have := congrArg (fun x => x.1.length) d2
  simp at this
  omega
end Go.Proofs.Ytmgpfckkafcllaa
