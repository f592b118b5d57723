/- assartref09.DocEncode. -/
import Derived.Test.YtmgpfckkafcllaaRefCheck
import Derived.Test.YtmgpfckkafcllaaLaw
import Derived.Deep.RegionHeldLaw
namespace Go.Proofs.Ytmgpfckkafcllaa
open Go Go.RowKit

theorem str_cat3 (a b c : List UInt8) : str a ++ str b ++ str c = str (a ++ b ++ c) := by rw [str_append, str_append]

set_option maxRecDepth 100000 in
set_option maxHeartbeats 1000000 in
theorem DocEncode_yes (seq : Nat) (l : List OpD) (v : Value) (w : World) (hv : RdT w 3 opC v l) (hc : checkB seq l = 0) :
    Calls Try.prog 12 #[.int .i64 (seq : Int), v] w fun e w' => e = .returned (.tuple #[.string (str (encB seq l)), .int .i64 0]) ∧ Below w.heap.size w w' := by
  have HC := Lib.hid (DocCheck_calls seq l v w hv)
  rw [hc] at HC
  obtain ⟨⟨_, s2, _⟩, l1, l2, hops⟩ := checkB_zero hc
  have HO := Lib.hid hops
  have HV := Lib.hid hv
  clear hops hc
  obtain ⟨A, c, rfl, hnc, hcm, q1, q2⟩ := hv
  clear q1 q2
  unfold maxLen at hcm
  have hadd : (9223372036854775807 < (str (leB 8 seq)).size + (str (leB 4 l.length)).size) = False := by simp [str_size, leB_length]
  go_enter Try.func12, Try.ntmps12
  go_wp2_with fail
  refine HC.out.mono ?_
  rintro e w1 ⟨rfl, hb1⟩
  go_wp2_with fail
  refine (RFixed_calls seq 8 (by omega) (by omega) w1).mono ?_
  rintro e w2 ⟨rfl, hb2⟩
  go_wp2_with fail
  refine (RFixed_calls l.length 4 (by omega) (by omega) w2).mono ?_
  rintro e w3 ⟨rfl, hb3⟩
  go_wp2_with fail
  have hb4 : Below w.heap.size w w3 := (hb1.trans (hb2.mono hb1.size)).trans (hb3.mono (hb1.trans (hb2.mono hb1.size)).size)
  rw [str_append]
  obtain ⟨p0, hp0⟩ : ∃ p0, leB 8 seq ++ leB 4 l.length = p0 := ⟨_, rfl⟩
  have hpl : p0.length = 12 := by rw [← hp0]; simp [leB_length]
  rw [hp0]
  have HP := Lib.hid hp0
  have HL := Lib.hid hpl
  clear hp0 hpl hadd hb1 hb2 hb3 HC
  go_loopw [11, 12] (fun bv iv wr => ∃ (k : Nat) (acc : List UInt8), k ≤ l.length ∧ iv = .int .i64 (k : Int) ∧ acc.length ≤ 12 + k * 2000 ∧ bv = .string (str acc) ∧ Hid (acc = p0 ++ (l.take k).flatMap opB) ∧ Below w.heap.size w wr)
    (fun _ iv _ => l.length - (intOf iv).toNat)
  case atStart => exact ⟨0, p0, Nat.zero_le _, rfl, by rw [HL.out]; omega, rfl, by simp [Hid], hb4⟩
  case round =>
    clear hb4
    obtain ⟨k, acc, hk, rfl, hal, rfl, hacc, hb⟩ := hrel
    have hsz := hb.size
    by_cases hkl : k < l.length
    · have hkl' : (k : Int) < l.length := by omega
      have h0 : (0 : Int) ≤ k := by omega
      obtain ⟨b, off, c', hA, hblt, _, _, hcell⟩ := (RdT.at HV.out opC_len (by omega) hkl)
      injection hA with hA _ hcc
      subst hA hcc
      obtain ⟨a1, a2, a3, a4, a5⟩ := HO.out l[k] (List.getElem_mem _)
      obtain ⟨o, ho⟩ : ∃ o, o = l[k] := ⟨_, rfl⟩
      rw [← ho] at a1 a2 a3 a4 a5 hcell
      have HOK := Lib.hid ho
      clear ho
      have KB : Hid (∀ w' : World, Below w.heap.size w w' → w'.cell? ⟨b, off + k * 3, none⟩ = some (.int .i64 o.kind) ∧ w'.cell? ⟨b, off + k * 3 + 1, none⟩ = some (.string o.key) ∧ w'.cell? ⟨b, off + k * 3 + 2, none⟩ = some (.string o.val)) :=
        fun w' h => ⟨(h.cell (p := ⟨b, _, none⟩) hblt).trans (hcell 0 _ rfl), (h.cell (p := ⟨b, _, none⟩) hblt).trans (hcell 1 _ rfl), (h.cell (p := ⟨b, _, none⟩) hblt).trans (hcell 2 _ rfl)⟩
      obtain ⟨c0, c1, c2⟩ := KB.out wr hb
      have htx : (textB o.key).length ≤ 80 := by have := putB_length o.key.size; simp [textB]; omega
      have htv : (textB o.val).length ≤ 1020 := by have := putB_length o.val.size; simp [textB]; omega
      have hku : IntKind.u8.wrap o.kind = ((o.kind.toNat : Nat) : Int) := by rcases a4 with h | h <;> rw [h] <;> rfl
      have hk256 : o.kind.toNat < 256 := by rcases a4 with h | h <;> rw [h] <;> decide
      obtain ⟨x, hx⟩ : ∃ x, UInt8.ofNat o.kind.toNat = x := ⟨_, rfl⟩
      have hob : Hid ((opB o).length ≤ 2000) := by
        show _ ≤ _
        unfold opB
        split <;> simp <;> omega
      have ad1 : (9223372036854775807 < (str acc).size + (str [x]).size) = False := by simp [str_size]; omega
      have ad2 : (9223372036854775807 < (str acc ++ str [x]).size + (str (textB o.key)).size) = False := by simp [str_append, str_size]; omega
      have ad3 : (9223372036854775807 < (str acc ++ str [x] ++ str (textB o.key)).size + (str (textB o.val)).size) = False := by simp [str_append, str_size]; omega
      have ad4 : (9223372036854775807 < (str acc).size + (str [x]).size + (str (textB o.key)).size) = False := by simp [str_size]; omega
      have ad5 : (9223372036854775807 < (str acc).size + (str [x]).size + (str (textB o.key)).size + (str (textB o.val)).size) = False := by simp [str_size]; omega
      have hcv : ∀ (B : Nat) (W : World), W.heap[B]? = some (.cells #[.int .u8 (IntKind.u8.wrap o.kind)] 5 (0, 0)) → (convert 26 9 (.slice (some ⟨B, 0, none⟩) 1 1)).run Try.prog W = .ok (.string (str [x])) W := fun B W h => by
        rw [hku] at h
        have hr := rd_one h hk256
        rw [hx] at hr
        exact run_str (P := Try.prog) hr Try.underlying26 Try.underlying5 Try.underlying9
      have hc1 := Lib.hid (fun W : World => hcv W.heap.size (W.alloc (.cells #[.int .u8 (IntKind.u8.wrap o.kind)] 5)) (heap_alloc_new W _))
      have hc3 := hcv wr.heap.size (wr.alloc (.cells #[.int .u8 (IntKind.u8.wrap o.kind)] 5)).drew (heap_alloc_new wr _)
      have hc5 : Hid (∀ w2 : World, Below (wr.alloc (.cells #[.int .u8 (IntKind.u8.wrap o.kind)] 5)).drew.heap.size (wr.alloc (.cells #[.int .u8 (IntKind.u8.wrap o.kind)] 5)).drew w2 → (convert 26 9 (.slice (some ⟨wr.heap.size, 0, none⟩) 1 1)).run Try.prog w2 = .ok (.string (str [x])) w2) := fun w2 h2 =>
        hcv _ _ ((h2.block wr.heap.size (by simp)).trans (heap_alloc_new wr _))
      have KP := Lib.hid (fun W => RText_calls o.key (by omega) W)
      have KQ := Lib.hid (fun W => RText_calls o.val (by omega) W)
      replace hx := Lib.hid hx
      have A4 := Lib.hid a4
      clear a4 a5 htx htv hku hk256 hcv
      have hbw : Hid (Below w.heap.size w wr.drew) := hb.drew
      have hbw2 : Hid (Below w.heap.size w (wr.alloc (.cells #[.int .u8 (IntKind.u8.wrap o.kind)] 5)).drew) := (hb.alloc hsz _).drew
      go_wp2_with fail
      go_region_held_law (fun w' => w'.cell? ⟨b, off + k * 3, none⟩ = some (.int .i64 o.kind) ∧ w'.cell? ⟨b, off + k * 3 + 1, none⟩ = some (.string o.key)) (first | exact ⟨e0, e1⟩ | go_keep)
        (first
          | (go_at_call 27; refine (KP.out _).mono ?_; rintro e w2 ⟨rfl, hb2⟩
             first | have hc4 := hc5.out w2 hb2 | have hc4 := hc1.out w2
             first | have hbx : Below w.heap.size w w2 := hbw2.out.trans (hb2.mono hbw2.out.size) | have hbx : Below w.heap.size w w2 := hbw.out.trans (hb2.mono hbw.out.size)
             obtain ⟨e0, e1, e2⟩ := KB.out w2 hbx))
      all_goals clear hc1 hc3 hc5 hbw hbw2 ad1 ad2 ad4 hb hsz c0 c1 c2 hcell
      all_goals have hby := hbx.alloc hbx.size (.cells #[.int .u8 (IntKind.u8.wrap o.kind)] 5)
      all_goals
        obtain ⟨e0', e1', e2'⟩ := KB.out _ hby
        clear hc4
        generalize w2.alloc (.cells #[.int .u8 (IntKind.u8.wrap o.kind)] 5) = W at *
        have htake : Hid ((l.take (k + 1)).flatMap opB = (l.take k).flatMap opB ++ opB o) := by
          show _ = _
          rw [List.take_succ_eq_append_getElem hkl, List.flatMap_append, ← HOK.out]; simp
        by_cases hk1 : o.kind = 1
        · have hk1' : (o.kind == 1) = true := by simp [hk1]
          have hval : Hid (Value.string (str acc ++ str [x] ++ str (textB o.key) ++ str (textB o.val)) = .string (str (acc ++ opB o))) := by
            show _ = _
            rw [str_append, str_append, str_append, ← hx.out]
            simp [opB, hk1]
          replace hk1 := Lib.hid hk1
          go_wp2_with (go_at_call 27; refine (KQ.out _).mono ?_; rintro e w5 ⟨rfl, hb5⟩)
          go_roundw
          case rel =>
            refine ⟨k + 1, acc ++ opB o, by omega, by go_num, by have := hob.out; simp only [List.length_append]; omega, hval.out, ?_, ?_⟩
            · show _ = _
              rw [htake.out, hacc.out, List.append_assoc]
            · first | exact hbx.trans (hb5.mono hbx.size) | exact hby.trans (hb5.mono hby.size)
          case measure => simp [intOf]; omega
        · have hk1' : (o.kind == 1) = false := by simpa using hk1
          have hval : Hid (Value.string (str acc ++ str [x] ++ str (textB o.key)) = .string (str (acc ++ opB o))) := by
            show _ = _
            rw [str_append, str_append, ← hx.out]
            simp [opB, hk1]
          replace hk1 := Lib.hid hk1
          go_wp2_with fail
          go_roundw
          case rel =>
            refine ⟨k + 1, acc ++ opB o, by omega, by go_num, by have := hob.out; simp only [List.length_append]; omega, hval.out, ?_, ?_⟩
            · show _ = _
              rw [htake.out, hacc.out, List.append_assoc]
            · first | exact hbx | exact hby
          case measure => simp [intOf]; omega
    · obtain rfl : k = l.length := by omega
      go_wp2_with fail
      go_ret2
      rw [List.take_length] at hacc
      refine ⟨?_, hb⟩
      rw [hacc.out, ← HP.out]
      rfl
end Go.Proofs.Ytmgpfckkafcllaa
