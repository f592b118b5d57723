/- assartlaw09.BatchBack. -/
import Derived.Test.YtmgpfckkafcllaaLaw
import Derived.Test.YtmgpfckkafcllaaRefOps
import Derived.Test.YtmgpfckkafcllaaSizes
namespace Go.Proofs.Ytmgpfckkafcllaa
open Go Go.RowKit

theorem sameB_self (l : List OpD) : sameB l l = true := by
  induction l with
  | nil => rfl
  | cons o l ih => simp [sameB, opEq, ih]

set_option maxRecDepth 100000 in
set_option maxHeartbeats 400000 in
theorem BatchBack_calls (seq : Int) (l : List OpD) (b : List UInt8) (v vb : Value) (w : World) (hv : RdT w 3 opC v l) (hvb : RdB w vb b) :
    Calls Try.prog 5 #[.int .i64 seq, v, vb] w fun e w' => e = .returned (.bool true) ∧ Below w.heap.size w w' := by
  have HV := Lib.hid hv
  have HB := Lib.hid hvb
  obtain ⟨A, c, rfl, hnc, hcm, q1, q2⟩ := hv
  obtain ⟨A2, c2, rfl, hnc2, hcm2, q3, q4⟩ := hvb
  clear q1 q2 q3 q4
  unfold maxLen at hcm hcm2
  go_enter Try.func5, Try.ntmps5
  go_wp2_with fail
  refine (batched_calls _).mono ?_
  rintro e w1 ⟨rfl, hb1⟩
  go_wp2_with fail
  refine (Encode_calls seq l _ w1 (HV.out.below hb1)).mono ?_
  by_cases hc : checkB seq l = 0
  · have he : encR seq l = encB seq.toNat l := by rw [encR, if_pos hc]
    have hva : ∀ x ∈ l, x.key.size ≤ 64 ∧ x.val.size ≤ 1000 := fun x hx => ⟨((ok_of_check hc).1 x hx).1, ((ok_of_check hc).1 x hx).2.1⟩
    have hsz : ((encB seq.toNat l).length : Int) = 12 + sumI l := encB_size hva
    have hbd := sumI_bd hva
    have hl200 := (checkB_zero hc).2.2.1
    have D1 := Lib.hid (decB_put hc)
    have D2 := Lib.hid (decB_less hc)
    have D3 := Lib.hid (decB_more hc (rest := [0]) (by simp))
    have hc0 : (checkB seq l == 0) = true := by simp [hc]
    rw [he]
    obtain ⟨x, hx⟩ : ∃ x, encB seq.toNat l = x := ⟨_, rfl⟩
    rw [hx] at hsz D1 D2 D3 ⊢
    clear he hva hx
    rintro e w2 ⟨v2, rfl, hown2, hb2⟩
    have hx12 : 12 ≤ x.length ∧ x.length ≤ 500000 := by omega
    clear hsz hbd hl200
    obtain ⟨A3, c3, rfl, hn3, hcm3, q1, q2⟩ := Rd.of_own hown2
    clear q1 q2
    have KD := Lib.hid (fun (W : World) (b : List UInt8) (v : Value) (h : RdB W v b) => Decode_calls b v W h)
    have hx1 : (1 : Int) ≤ x.length := by omega
    have hrx : RdB w2 (.slice A3 x.length c3) x := Rd.of_own hown2
    go_wp2_with fail
    go_at_call 14
    refine (KD.out _ x _ hrx).mono ?_
    rw [D1.out]
    rintro e w3 ⟨v3, rfl, hown3, hb3⟩
    go_wp2_with fail
    go_at_call 14
    refine (KD.out _ (x.take (x.length - 1)) _ ((hrx.head (by omega)).keepB hb3)).mono ?_
    rw [D2.out]
    rintro e w4 ⟨v4, rfl, hown4, hb4⟩
    have hb4' : Below w2.heap.size w2 w4 := hb3.trans (hb4.mono hb3.size)
    have hz4 := hb4'.size
    have hrx4 : Rd (w4.alloc (.cells #[] 5)) 1 (.slice A3 x.length c3) x.length (bc x) := hrx.keepB (hb4'.alloc hz4 _)
    have B1 : (0 + x.length) * 1 ≤ 140737488355328 := by omega
    have B2 : (0 + x.length + 1) * 1 ≤ 140737488355328 := by omega
    replace hb3 := Lib.hid hb3
    replace hb4 := Lib.hid hb4
    go_wp2_with (first
      | (at_builtin; refine wpL_app et_bytes (.tmp 49) (.tmp 50) rfl rfl (own0 (base := w4.heap.size) (heap_alloc_new w4 _) (Nat.le_refl _)) rfl rfl (Rd.src hrx4 (bc_one _) Try.underlying26) B1 (by simp) ?_; intro v5 w5 hown5 hg5 hat5)
      | (at_builtin; refine wpL_app et_bytes (.tmp 51) (.tmp 52) rfl rfl (hown5.alloc _) rfl rfl (src_one Try.underlying26 rfl rfl (by simp)) B2 ?_ ?_; (have := hg5.size; simp at this; simp; omega); intro v6 w6 hown6 hg6 hat6))
    have h5 : Below w4.heap.size w4 w5 := grow_below hg5 ((Below.refl _ _).alloc (Nat.le_refl _) _) (Nat.le_refl _) (by intro k hk; simp [Value.ownBlock] at hk; omega)
    have h6 : Below w4.heap.size w4 w6 := below_app (h5.alloc h5.size _) hg6 (hown5.alloc _) (Nat.le_refl _) (by have := h5.size; simp; omega)
    go_at_call 14
    refine (KD.out w6 (x ++ [0]) v6 (Rd.of_own (own_cast hown6 (by simp) (by simp [bc])))).mono ?_
    rw [D3.out]
    rintro e w7 ⟨v7, rfl, hown7, hb7⟩
    have h47 : Below w4.heap.size w4 w7 := h6.trans (hb7.mono h6.size)
    have h37 : Below w3.heap.size w3 w7 := hb4.out.trans (h47.mono hb4.out.size)
    have h17 : Below w.heap.size w w7 := hb1.trans ((hb2.trans ((hb3.out.trans (h37.mono hb3.out.size)).mono hb2.size)).mono hb1.size)
    have KO := Lib.hid (Ops_calls l l v3 (.slice A l.length c) w7 (Rd.of_own (own_below hown3 h37 (Nat.le_refl _))) (HV.out.below h17))
    rw [sameB_self] at KO
    replace hb1 := Lib.hid hb1
    replace hb2 := Lib.hid hb2
    replace h37 := Lib.hid h37
    replace h47 := Lib.hid h47
    replace h5 := Lib.hid h5
    replace h6 := Lib.hid h6
    clear hown7 hown6 hown5 hg5 hg6 hat5 hat6 hrx4 hrx hown4 hown3 hown2 B1 B2 hz4 hb4'
    go_wp2_with (first
      | (go_at_call 16; refine KO.out.mono ?_; rintro e w8 ⟨rfl, hb8⟩))
    have h08 : Below w.heap.size w w8 := h17.trans (hb8.mono h17.size)
    go_at_call 14
    refine (KD.out w8 b (.slice A2 b.length c2) (HB.out.keepB h08)).mono ?_
    by_cases hok : decOk b = true
    · obtain ⟨k1, k2⟩ := decOk_inv hok
      have hdb : decB b = (decSeq b, (decR b).2.2, 0) := if_pos hok
      have hc2 : (checkB (decSeq b) (decR b).2.2 == 0) = true := by simp [k1]
      have hen : encR (decSeq b) (decR b).2.2 = b := by rw [encR, if_pos k1, k2]
      rw [hdb]
      obtain ⟨sq, hsq⟩ : ∃ sq, decSeq b = sq := ⟨_, rfl⟩
      obtain ⟨ops, hops⟩ : ∃ ops, (decR b).2.2 = ops := ⟨_, rfl⟩
      rw [hsq, hops] at hc2 hen ⊢
      replace k1 := Lib.hid k1
      clear k2 hdb hok hsq hops
      replace hen := Lib.hid hen
      rintro e w9 ⟨v9, rfl, hown9, hb9⟩
      simp only at hown9
      have h9 : Below w.heap.size w w9 := h08.trans (hb9.mono h08.size)
      go_wp2_with fail
      go_at_call 10
      refine (Encode_calls sq ops v9 w9 (Rd.of_own hown9)).mono ?_
      rw [hen.out]
      rintro e wa ⟨va, rfl, howna, hba⟩
      have ha : Below w.heap.size w wa := h9.trans (hba.mono h9.size)
      have cv1 := run_str (P := Try.prog) (Rd.of_own howna) Try.underlying26 Try.underlying5 Try.underlying9
      have cv2 := run_str (P := Try.prog) (HB.out.keepB ha) Try.underlying26 Try.underlying5 Try.underlying9
      replace ha := Lib.hid ha
      go_wp2_with fail
      go_ret
      exact ⟨rfl, ha.out⟩
    · have hdb : decB b = (0, [], 2) := if_neg hok
      rw [hdb]
      rintro e w9 ⟨v9, rfl, hown9, hb9⟩
      have h9 : Below w.heap.size w w9 := h08.trans (hb9.mono h08.size)
      obtain ⟨A9, c9, rfl, _, _, _, _⟩ := Rd.of_own hown9
      replace h9 := Lib.hid h9
      clear hown9 hb9 hdb hok
      go_wp2_with fail
      go_ret
      exact ⟨rfl, h9.out⟩
  · have hc0 : (checkB seq l == 0) = false := by simpa using hc
    rintro e w2 ⟨v2, rfl, hown2, hb2⟩
    have h08 : Below w.heap.size w w2 := hb1.trans (hb2.mono hb1.size)
    clear hown2
    go_wp2_with fail
    go_at_call 14
    refine (Decode_calls b (.slice A2 b.length c2) w2 (HB.out.keepB h08)).mono ?_
    by_cases hok : decOk b = true
    · obtain ⟨k1, k2⟩ := decOk_inv hok
      have hdb : decB b = (decSeq b, (decR b).2.2, 0) := if_pos hok
      have hc2 : (checkB (decSeq b) (decR b).2.2 == 0) = true := by simp [k1]
      have hen : encR (decSeq b) (decR b).2.2 = b := by rw [encR, if_pos k1, k2]
      rw [hdb]
      obtain ⟨sq, hsq⟩ : ∃ sq, decSeq b = sq := ⟨_, rfl⟩
      obtain ⟨ops, hops⟩ : ∃ ops, (decR b).2.2 = ops := ⟨_, rfl⟩
      rw [hsq, hops] at hc2 hen ⊢
      replace k1 := Lib.hid k1
      clear k2 hdb hok hsq hops
      replace hen := Lib.hid hen
      rintro e w9 ⟨v9, rfl, hown9, hb9⟩
      simp only at hown9
      have h9 : Below w.heap.size w w9 := h08.trans (hb9.mono h08.size)
      go_wp2_with fail
      go_at_call 10
      refine (Encode_calls sq ops v9 w9 (Rd.of_own hown9)).mono ?_
      rw [hen.out]
      rintro e wa ⟨va, rfl, howna, hba⟩
      have ha : Below w.heap.size w wa := h9.trans (hba.mono h9.size)
      have cv1 := run_str (P := Try.prog) (Rd.of_own howna) Try.underlying26 Try.underlying5 Try.underlying9
      have cv2 := run_str (P := Try.prog) (HB.out.keepB ha) Try.underlying26 Try.underlying5 Try.underlying9
      replace ha := Lib.hid ha
      go_wp2_with fail
      go_ret
      exact ⟨rfl, ha.out⟩
    · have hdb : decB b = (0, [], 2) := if_neg hok
      rw [hdb]
      rintro e w9 ⟨v9, rfl, hown9, hb9⟩
      have h9 : Below w.heap.size w w9 := h08.trans (hb9.mono h08.size)
      obtain ⟨A9, c9, rfl, _, _, _, _⟩ := Rd.of_own hown9
      replace h9 := Lib.hid h9
      clear hown9 hb9 hdb hok
      go_wp2_with fail
      go_ret
      exact ⟨rfl, h9.out⟩
end Go.Proofs.Ytmgpfckkafcllaa
