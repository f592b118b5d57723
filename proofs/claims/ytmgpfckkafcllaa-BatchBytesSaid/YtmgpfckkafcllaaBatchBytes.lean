/- assartlaw09.BatchBytes. -/
import Derived.Test.YtmgpfckkafcllaaRefDoc
import Derived.Test.YtmgpfckkafcllaaRefOps
import Derived.Test.YtmgpfckkafcllaaSizes
namespace Go.Proofs.Ytmgpfckkafcllaa
open Go Go.RowKit

theorem sameB_same (l : List OpD) : sameB l l = true := by
  induction l with
  | nil => rfl
  | cons o l ih => simp [sameB, opEq, ih]

set_option maxRecDepth 100000 in
set_option maxHeartbeats 400000 in
theorem BatchBytes_calls (seq : Int) (l : List OpD) (b : List UInt8) (v vb : Value) (w : World) (hv : RdT w 3 opC v l) (hvb : RdB w vb b) :
    Calls Try.prog 4 #[.int .i64 seq, v, vb] w fun e w' => e = .returned (.bool true) ∧ Below w.heap.size w w' := by
  have HV := Lib.hid hv
  have HB := Lib.hid hvb
  obtain ⟨A, c, rfl, hnc, hcm, q1, q2⟩ := hv
  obtain ⟨A2, c2, rfl, hnc2, hcm2, q3, q4⟩ := hvb
  clear q1 q2 q3 q4
  unfold maxLen at hcm hcm2
  go_enter Try.func4, Try.ntmps4
  by_cases hbig : (b.length : Int) > 20000
  · go_wp2_with fail
    go_at_call 9
    refine (batched_calls _).mono ?_
    rintro e w1 ⟨rfl, hb1⟩
    go_wp2_with fail
    go_ret
    exact ⟨rfl, hb1⟩
  · go_wp2_with fail
    go_at_call 12
    refine (DocEncode_calls seq l _ w HV.out).mono ?_
    rintro e w1 ⟨rfl, hb1⟩
    go_wp2_with fail
    go_at_call 10
    refine (Encode_calls seq l _ w1 (HV.out.below hb1)).mono ?_
    rintro e w2 ⟨v2, rfl, hown2, hb2⟩
    have h2 : Below w.heap.size w w2 := hb1.trans (hb2.mono hb1.size)
    have cv2 := run_str (P := Try.prog) (HB.out.keepB h2) Try.underlying26 Try.underlying5 Try.underlying9
    go_wp2_with fail
    go_at_call 13
    refine (DocDecode_calls b (by omega) w2).mono ?_
    rintro e w3 ⟨v3, rfl, hown3, hb3⟩
    clear cv2
    have h3 : Below w.heap.size w w3 := h2.trans (hb3.mono h2.size)
    go_wp2_with fail
    go_at_call 14
    refine (Decode_calls b _ w3 (HB.out.keepB h3)).mono ?_
    rintro e w4 ⟨v4, rfl, hown4, hb4⟩
    have h4 : Below w.heap.size w w4 := h3.trans (hb4.mono h3.size)
    go_wp2_with fail
    go_at_call 9
    refine (batched_calls _).mono ?_
    rintro e w5 ⟨rfl, hb5⟩
    have h5 : Below w.heap.size w w5 := h4.trans (hb5.mono h4.size)
    have h25 : Below w2.heap.size w2 w5 := hb3.trans ((hb4.trans (hb5.mono hb4.size)).mono hb3.size)
    have h35 : Below w3.heap.size w3 w5 := hb4.trans (hb5.mono hb4.size)
    have cv5 := run_str (P := Try.prog) (Rd.of_own (own_below hown2 h25 (Nat.le_refl _))) Try.underlying26 Try.underlying5 Try.underlying9
    have KC := Lib.hid (Check_calls seq l (.slice A l.length c) w5 (HV.out.below h5))
    have KO := Lib.hid (fun (W : World) (h : Below w5.heap.size w5 W) => Ops_calls (decB b).2.1 (decB b).2.1 v3 v4 W (Rd.of_own (own_below hown3 (h35.trans (h.mono h35.size)) (Nat.le_refl _))) (Rd.of_own (own_below hown4 (hb5.trans (h.mono hb5.size)) (Nat.le_refl _))))
    rw [sameB_same] at KO
    generalize decB b = d at *
    generalize checkB seq l = r at *
    change (convert _ _ _).run _ _ = .ok (.string (str (encR seq l))) _ at cv5
    replace h5 := Lib.hid h5
    clear hown2 hown3 hown4 hb1 hb2 hb3 hb4 hb5 h2 h3 h4 h25 h35
    go_wp2_with (first
      | (go_at_call 15; refine KC.out.mono ?_; rintro e w6 ⟨rfl, hb6⟩)
      | (go_at_call 16; refine (KO.out _ hb6).mono ?_; rintro e w7 ⟨rfl, hb7⟩))
    go_ret
    exact ⟨rfl, h5.out.trans ((hb6.trans (hb7.mono hb6.size)).mono h5.out.size)⟩
end Go.Proofs.Ytmgpfckkafcllaa
