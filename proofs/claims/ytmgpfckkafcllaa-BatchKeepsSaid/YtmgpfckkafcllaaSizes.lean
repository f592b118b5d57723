/- The law BatchSizes: its walks. -/
import Derived.Test.YtmgpfckkafcllaaEncode
namespace Go.Proofs.Ytmgpfckkafcllaa
open Go Go.RowKit

def oneOp : OpD := ⟨1, ⟨#[97]⟩, ⟨#[120, 121]⟩⟩
theorem one_check : checkB 1 [oneOp] = 0 := by simp [checkB, longB, oddB, oneOp, ByteArray.toList_eq, ByteArray.size]
theorem one_bytes : encB 1 [oneOp] = [1, 0, 0, 0, 0, 0, 0, 0, 1, 0, 0, 0, 1, 1, 97, 2, 120, 121] := by decide +kernel
theorem underlying_u8 : Try.prog.underlying 5 = some (.int .u8) := Try.underlying5

set_option maxRecDepth 100000 in
set_option maxHeartbeats 400000 in
theorem batched_calls (w : World) : Calls Try.prog 9 #[] w fun e w' => e = .returned (.bool true) ∧ Below w.heap.size w w' := by
  go_enter Try.func9, Try.ntmps9
  have hrd : RdT (w.alloc (.cells #[.int .i64 1, .string ⟨#[97]⟩, .string ⟨#[120, 121]⟩] 24)) 3 opC (.slice (some ⟨w.heap.size, 0, none⟩) 1 1) [oneOp] :=
    Rd_block (heap_alloc_new w _) rfl (Nat.le_refl _) (by decide)
  have HE := Lib.hid (Encode_yes 1 [oneOp] _ _ hrd one_check)
  rw [one_bytes] at HE
  clear hrd
  go_wp2_with (first | (go_at_call 10; refine HE.out.mono ?_; rintro e w1 ⟨v1, rfl, hown1, hb1⟩; have hcv := run_str (P := Try.prog) (Rd.of_own hown1) Try.underlying26 Try.underlying5 Try.underlying9))
  go_ret
  exact ⟨rfl, ((Below.refl _ _).alloc (Nat.le_refl _) _).trans (hb1.mono (by simp))⟩
#print axioms batched_calls

/-- size: of a change. -/
def sizeI (o : OpD) : Int := 2 + o.key.size + (if o.kind = 1 then 1 + o.val.size + (if 127 < o.val.size then 1 else 0) else 0)
set_option maxRecDepth 100000 in
set_option maxHeartbeats 400000 in
theorem size_calls (o : OpD) (w : World) (hk : o.key.size ≤ 140737488351232) (hv : o.val.size ≤ 140737488351232) : Calls Try.prog 11 #[.agg #[.int .i64 o.kind, .string o.key, .string o.val]] w fun e w' => e = .returned (.int .i64 (sizeI o)) ∧ Below w.heap.size w w' := by
  have H : Hid (sizeI o = 2 + o.key.size + (if o.kind = 1 then 1 + o.val.size + (if 127 < o.val.size then 1 else 0) else 0)) := rfl
  generalize sizeI o = r at *
  by_cases h1 : o.kind = 1
  · have h1' : (o.kind == 1) = true := by simp [h1]
    have HK := Lib.hid h1
    clear h1
    by_cases h2 : 127 < o.val.size
    all_goals
      have h2' : (127 : Int) < o.val.size ∨ ¬ (127 : Int) < o.val.size := by omega
      go_enter Try.func11, Try.ntmps11
      go_wp2
      go_ret
      exact ⟨ret_int (by rw [H.out, if_pos HK.out]; (first | rw [if_pos h2] | rw [if_neg h2]); omega), (Below.refl _ _).alloc (Nat.le_refl _) _⟩
  · have h1' : (o.kind == 1) = false := by simpa using h1
    have HK := Lib.hid h1
    clear h1
    go_enter Try.func11, Try.ntmps11
    go_wp2
    go_ret
    exact ⟨ret_int (by rw [H.out, if_neg HK.out]; omega), (Below.refl _ _).alloc (Nat.le_refl _) _⟩

theorem putB_len1 (n : Nat) (h : n < 128) : (putB n).length = 1 := by rw [putB_small n h]; rfl
theorem putB_len2 (n : Nat) (h : 128 ≤ n) (h2 : n ≤ 1000) : (putB n).length = 2 := by
  rw [putB_big n h (by unfold U64; omega), List.length_cons, putB_len1 _ (by omega)]
theorem opB_size {o : OpD} (h : o.key.size ≤ 64 ∧ o.val.size ≤ 1000) : ((opB o).length : Int) = sizeI o := by
  have h1 := putB_len1 o.key.size (by omega)
  have hl : ∀ s : ByteArray, s.data.toList.length = s.size := fun s => by rw [Array.length_toList]; rfl
  unfold sizeI opB textB
  simp only [List.length_cons, List.length_append, h1, hl]
  by_cases hk : o.kind = 1
  · rw [if_pos hk, if_pos hk]
    simp only [List.length_append, hl]
    by_cases hv : 127 < o.val.size
    · rw [if_pos hv, putB_len2 _ (by omega) (by omega)]; omega
    · rw [if_neg hv, putB_len1 _ (by omega)]; omega
  · rw [if_neg hk, if_neg hk]; simp only [List.length_nil]; omega
def sumI (l : List OpD) : Int := (l.map sizeI).sum
theorem sumI_snoc (l : List OpD) (o : OpD) : sumI (l ++ [o]) = sumI l + sizeI o := by simp [sumI]
theorem encB_size {seq : Nat} : ∀ {l : List OpD}, (∀ o ∈ l, o.key.size ≤ 64 ∧ o.val.size ≤ 1000) → ((encB seq l).length : Int) = 12 + sumI l := by
  have key : ∀ l : List OpD, (∀ o ∈ l, o.key.size ≤ 64 ∧ o.val.size ≤ 1000) → ((l.flatMap opB).length : Int) = sumI l := by
    intro l
    induction l with
    | nil => intro _; simp [sumI]
    | cons o l ih =>
      intro h
      have h1 := opB_size (h o (by simp))
      have h2 := ih fun x hx => h x (by simp [hx])
      simp only [List.flatMap_cons, List.length_append, sumI, List.map_cons, List.sum_cons] at *
      omega
  intro l h
  have := key l h
  simp only [encB, List.length_append, leB_length]
  omega
theorem sumI_bd {l : List OpD} (h : ∀ o ∈ l, o.key.size ≤ 64 ∧ o.val.size ≤ 1000) : 0 ≤ sumI l ∧ sumI l ≤ 1200 * l.length := by
  induction l with
  | nil => simp [sumI]
  | cons o l ih =>
    have h1 := h o (by simp)
    have h2 := ih fun x hx => h x (by simp [hx])
    have h3 : 0 ≤ sizeI o ∧ sizeI o ≤ 1200 := by
      unfold sizeI
      split <;> (try split) <;> omega
    simp only [sumI, List.map_cons, List.sum_cons, List.length_cons] at *
    omega
def flatB (l : List OpD) : List UInt8 := l.flatMap opB
theorem enc_tail (seq : Nat) (l : List OpD) (r : List OpD) : ((encB seq (l ++ r)).drop 12).take ((encB seq l).length - 12) = flatB l := by
  have e : encB seq (l ++ r) = (leB 8 seq ++ leB 4 (l ++ r).length) ++ (flatB l ++ flatB r) := by simp [encB, flatB]
  have h12 : (leB 8 seq ++ leB 4 (l ++ r).length).length = 12 := by simp [leB_length]
  have hl : (encB seq l).length - 12 = (flatB l).length := by simp [encB, flatB, leB_length]; omega
  rw [e, List.drop_append, h12, hl, List.drop_of_length_le (by omega), Nat.sub_self, List.drop_zero, List.nil_append, List.take_left]
theorem enc_head (seq : Nat) (l : List OpD) : (encB seq l).take 8 = leB 8 seq := by
  rw [encB, List.append_assoc, List.take_append_of_le_length (by simp [leB_length])]
  exact List.take_of_length_le (by simp [leB_length])
theorem own_ops {W : World} {B : Nat} {v : Value} {l : List OpD} {o : OpD} (h : W.ownsRow B 24 3 v (0 + l.length + 1) ([] ++ l.flatMap opC ++ opC o)) : RdT W 3 opC v (l ++ [o]) := by
  have e1 : (l ++ [o]).flatMap opC = [] ++ l.flatMap opC ++ opC o := by simp
  have e2 : (l ++ [o]).length = 0 + l.length + 1 := by simp
  unfold RdT
  rw [e1, e2]
  exact Rd.of_own h
theorem first_below {w2 w3 W w4 : World} {v : Value} {n : Nat} {xs : List Value} {e : TypeId} {sz : Nat} (hc3 : Below w2.heap.size w2 w3) (hg4 : W.grownBy w4 v.ownBlock) (hown3 : w3.ownsRow w2.heap.size e sz v n xs)
    (hW : Below w3.heap.size w3 W) : Below w2.heap.size w2 w4 :=
  below_app (hc3.trans (hW.mono hc3.size)) hg4 (own_below hown3 hW (Nat.le_refl _)) (Nat.le_refl _) (Nat.le_trans hc3.size hW.size)

set_option maxRecDepth 100000 in
set_option maxHeartbeats 400000 in
theorem BatchSizes_calls (seq : Int) (l : List OpD) (o : OpD) (v : Value) (w : World) (hv : RdT w 3 opC v l) (h150 : l.length ≤ 150) :
    Calls Try.prog 3 #[.int .i64 seq, v, .agg #[.int .i64 o.kind, .string o.key, .string o.val]] w fun e w' => e = .returned (.bool true) ∧ Below w.heap.size w w' := by
  have HV := Lib.hid hv
  obtain ⟨A, c, rfl, hnc, hcm, q1, q2⟩ := hv
  clear q1 q2
  unfold maxLen at hcm
  go_enter Try.func3, Try.ntmps3
  go_wp2_with fail
  refine (batched_calls _).mono ?_
  rintro e w1 ⟨rfl, hb1⟩
  go_wp2_with fail
  refine (Encode_calls seq l _ w1 ?_).mono ?_
  · exact HV.out.below (((Below.refl _ _).alloc (Nat.le_refl _) _).trans (hb1.mono (by simp)))
  rintro e w2 ⟨v2, rfl, hown2, hb2⟩
  go_wp2_with fail
  have z1 := hb1.size
  have z2 := hb2.size
  simp only [World.size_alloc] at z1
  have hbA : Below w.heap.size w w2 := (((Below.refl _ _).alloc (Nat.le_refl _) _).trans (hb1.mono (by simp))).trans (hb2.mono (by omega))
  have eb : w2.heap[w.heap.size]? = some (.cells #[.int .i64 o.kind, .string o.key, .string o.val] 24 (0, 0)) := (hb2.block _ (by omega)).trans ((hb1.block _ (by simp)).trans (heap_alloc_new w _))
  have hrd2 : RdT w2 3 opC (.slice A l.length c) l := HV.out.below hbA
  have d0 : w2.cell? ⟨w.heap.size, 0, none⟩ = some (.int .i64 o.kind) := by simp [World.cell?, eb]
  have d1 : w2.cell? ⟨w.heap.size, 1, none⟩ = some (.string o.key) := by simp [World.cell?, eb]
  have d2 : w2.cell? ⟨w.heap.size, 2, none⟩ = some (.string o.val) := by simp [World.cell?, eb]
  have h1o : ∀ u ∈ l.flatMap opC, u.oneCell' = true := by
    intro u hu
    obtain ⟨x, _, hx⟩ := List.mem_flatMap.1 hu
    simp [opC] at hx
    rcases hx with rfl | rfl | rfl <;> rfl
  have B1 : (0 + l.length) * 40 ≤ 140737488355328 := by omega
  have B2 : (0 + l.length + 1) * 40 ≤ 140737488355328 := by omega
  have KE := Lib.hid (fun (v : Value) (W : World) (h : RdT W 3 opC v (l ++ [o])) => Encode_calls seq (l ++ [o]) v W h)
  have H1O := Lib.hid h1o
  have HR2 := Lib.hid hrd2
  clear h1o hrd2 hb1 HV
  have EB := Lib.hid eb
  have HB2 := Lib.hid hbA
  have hlt : w.heap.size < w2.heap.size := by omega
  have KB : ∀ w' : World, Below w2.heap.size w2 w' → w'.heap[w.heap.size]? = some (.cells #[.int .i64 o.kind, .string o.key, .string o.val] 24 (0, 0)) := fun w' h => (h.block _ hlt).trans EB.out
  have KB' := Lib.hid KB
  clear KB eb hbA
  go_cut [9, 10] (fun s9 s10 wx => s10 = .int .i64 (checkB seq (l ++ [o])) ∧ wx.ownsRow w2.heap.size 5 1 s9 (encR seq (l ++ [o])).length (bc (encR seq (l ++ [o]))) ∧ Below w2.heap.size w2 wx)
  case first =>
    go_region_held3 (fun w' => w'.cell? ⟨w.heap.size, 0, none⟩ = some (.int .i64 o.kind) ∧ w'.cell? ⟨w.heap.size, 1, none⟩ = some (.string o.key) ∧ w'.cell? ⟨w.heap.size, 2, none⟩ = some (.string o.val))
        (first | go_keep | (have eb := KB'.out _ hc5; refine ⟨?_, ?_, ?_⟩ <;> simp [World.cell?, eb]; done) | (have eb := KB'.out _ hc4; refine ⟨?_, ?_, ?_⟩ <;> simp [World.cell?, eb]; done) | (have eb := KB'.out _ hc3; refine ⟨?_, ?_, ?_⟩ <;> simp [World.cell?, eb]; done))
        (first
          | (go_at_call 10; refine (KE.out _ _ (own_ops hown4)).mono ?_; rintro e w5 ⟨v5, rfl, hown5, hb5⟩
             have hc5 : Below w2.heap.size w2 w5 := hc4.trans (hb5.mono hc4.size))
          | (refine step_app et_ops (.tmp 29) (.tmp 30) rfl rfl (own0 (base := w2.heap.size) ?_ ?_) rfl rfl (Rd.src (HR2.out.over ?_) H1O.out Try.underlying22) B1 ?_ ?_
             first | exact new_at rfl | exact new_old (new_at rfl) | exact new_at (by simp)
             first | exact Nat.le_refl _ | simp
             (intro b hb; first | exact Below.heap_alloc _ _ _ hb | exact (Below.heap_alloc _ _ _ (by simp; omega)).trans (Below.heap_alloc _ _ _ hb))
             (simp; try omega)
             intro v3 w3 hown3 hg3 hat3
             first | have hc3 := grow_below hg3 ((Below.refl w2.heap.size w2).alloc (Nat.le_refl _) _).drew (Nat.le_refl _) (by intro k hk; simp [Value.ownBlock] at hk; omega) | have hc3 := grow_below hg3 (((Below.refl w2.heap.size w2).alloc (Nat.le_refl _) _).alloc (by simp) _).drew (Nat.le_refl _) (by intro k hk; simp [Value.ownBlock] at hk; omega))
          | (first | refine step_app et_ops (.tmp 31) (.tmp 33) rfl rfl hown3 rfl rfl (src_blk (sz := 3) (cs := opC o) (e := 24) (fr := (0, 0)) Try.underlying22 ?_ rfl ?_) B2 ?_ ?_ | refine step_app et_ops (.tmp 31) (.tmp 33) rfl rfl (hown3.alloc _) rfl rfl (src_blk (sz := 3) (cs := opC o) (e := 24) (fr := (0, 0)) Try.underlying22 ?_ rfl ?_) B2 ?_ ?_
             (first | exact new_at rfl | exact (hg3.block _ (by simp <;> omega) (by simp [Value.ownBlock])).trans (new_at (by simp)) | exact (hg3.block _ (by simp <;> omega) (by simp [Value.ownBlock])).trans (new_old (new_at rfl)))
             (intro u hu; simp [opC] at hu; rcases hu with rfl | rfl | rfl <;> rfl)
             (first | exact hc3.size | exact Nat.le_trans hc3.size (by simp))
             intro v4 w4 hown4 hg4 hat4
             first | have hc4 := first_below hc3 hg4 hown3 (Below.refl _ _) | have hc4 := first_below hc3 hg4 hown3 ((Below.refl _ _).alloc (Nat.le_refl _) _))
          )
    all_goals
      go_wp2_with fail
      go_meet
      case rel => exact ⟨rfl, own_below hown5 (Below.refl _ _) hc4.size, hc5⟩
  case rest =>
    clear KE H1O B1 B2 d0 d1 d2
    obtain ⟨rfl, hown5, hc5⟩ := hcut
    have hown2c := own_below hown2 hc5 (Nat.le_refl _)
    have zc := hc5.size
    by_cases hc : checkB seq l = 0
    · obtain ⟨⟨s1, s2, s3⟩, n1, n2, hops⟩ := checkB_zero hc
      have he : encR seq l = encB seq.toNat l := by rw [encR, if_pos hc]
      have hva : ∀ x ∈ l, x.key.size ≤ 64 ∧ x.val.size ≤ 1000 := fun x hx => ⟨(hops x hx).2.1, (hops x hx).2.2.1⟩
      have hsz : ((encR seq l).length : Int) = 12 + sumI l := by rw [he]; exact encB_size hva
      have hbd := sumI_bd hva
      have HVA := Lib.hid hva
      have HE := Lib.hid he
      have HCK := Lib.hid hc
      have hc' : (checkB seq l != 0) = false := by simp [hc]
      obtain ⟨A2, c2, rfl, hn2, hcm2, _, _⟩ := Rd.of_own hown2c
      rename_i q1 q2
      clear q1 q2 hops hva he
      have hHc : Hid (checkB seq l = 0) := hc
      generalize checkB seq l = r1 at *
      clear hc
      go_wp2_with fail
      have HV1 := Lib.hid HR2.out
      have KC : ∀ wr : World, Below w2.heap.size w2 wr → ∀ (k : Nat) (hk : k < l.length), ∃ b off, A = some ⟨b, off, none⟩ ∧ wr.cell? ⟨b, off + k * 3, none⟩ = some (.int .i64 l[k].kind) ∧ wr.cell? ⟨b, off + k * 3 + 1, none⟩ = some (.string l[k].key) ∧ wr.cell? ⟨b, off + k * 3 + 2, none⟩ = some (.string l[k].val) := by
        intro wr hwr k hk
        obtain ⟨b, off, c', hA, hblt, _, _, hcell⟩ := (RdT.at HR2.out opC_len (by omega) hk)
        injection hA with hA _ _
        have hcw : ∀ j u, (opC l[k])[j]? = some u → wr.cell? ⟨b, off + k * 3 + j, none⟩ = some u := fun j u hu => (hwr.cell (p := ⟨b, _, none⟩) hblt).trans (hcell j u hu)
        exact ⟨b, off, hA, hcw 0 _ rfl, hcw 1 _ rfl, hcw 2 _ rfl⟩
      have KC' := Lib.hid KC
      clear KC
      go_loopw [11, 12] (fun nv iv wr => ∃ k : Nat, k ≤ l.length ∧ iv = .int .i64 (k : Int) ∧ nv = .int .i64 (12 + sumI (l.take k)) ∧ Below wc.heap.size wc wr)
        (fun _ iv _ => l.length - (intOf iv).toNat)
      case atStart => exact ⟨0, Nat.zero_le _, rfl, by simp [sumI], Below.refl _ _⟩
      case round =>
        obtain ⟨k, hk, rfl, rfl, hbr⟩ := hrel
        have hzr := hbr.size
        by_cases hkl : k < l.length
        · have hkl' : (k : Int) < l.length := by omega
          obtain ⟨b, off, rfl, c0, c1, c2⟩ := KC'.out wr (hc5.trans (hbr.mono zc)) k hkl
          have hvk := HVA.out l[k] (List.getElem_mem _)
          have hbk := sumI_bd (l := l.take k) (fun x hx => HVA.out x (List.mem_of_mem_take hx))
          have hlk : (l.take k).length ≤ 150 := by rw [List.length_take]; omega
          have hs1 : sumI (l.take (k + 1)) = sumI (l.take k) + sizeI l[k] := by rw [List.take_succ_eq_append_getElem hkl, sumI_snoc]
          have hzk : 0 ≤ sizeI l[k] ∧ sizeI l[k] ≤ 1200 := by
            have := sumI_bd (l := [l[k]]) (fun x hx => by simp at hx; subst hx; exact hvk)
            simpa [sumI] using this
          have HS1 := Lib.hid hs1
          have KS := Lib.hid (fun W => size_calls l[k] W (by omega) (by omega))
          clear hs1
          obtain ⟨x, hx⟩ : ∃ x, x = l[k] := ⟨_, rfl⟩
          rw [← hx] at c0 c1 c2 hvk hzk KS HS1
          clear hx
          generalize sumI (l.take k) = sk at *
          go_wp2_with (first | (go_at_call 11; refine (KS.out _).mono ?_; rintro e w6 ⟨rfl, hb6⟩))
          go_roundw
          case rel => exact ⟨k + 1, by omega, by go_num, by rw [HS1.out, Int.add_assoc], hbr.trans (hb6.mono hzr)⟩
          case measure => simp [intOf]; omega
        · obtain rfl : k = l.length := by omega
          have hbA := HB2.out.trans ((hc5.mono (by omega)).trans (hbr.mono (by omega)))
          rw [List.take_length, ← hsz]
          obtain ⟨n, hn⟩ : ∃ n, (encR seq l).length = n := ⟨_, rfl⟩
          have HN := Lib.hid hn
          rw [hn] at hown2c ⊢
          clear hsz
          clear KC' HV1
          by_cases hf : checkB seq (l ++ [o]) = 0
          · have he5 : encR seq (l ++ [o]) = encB seq.toNat (l ++ [o]) := by rw [encR, if_pos hf]
            obtain ⟨_, _, _, hops5⟩ := checkB_zero hf
            have ho := hops5 o (by simp)
            have hos := opB_size (o := o) ⟨ho.2.1, ho.2.2.1⟩
            have hlen5 : (encB seq.toNat (l ++ [o])).length = n + (opB o).length := by
              rw [← hn, HE.out]
              simp only [encB, List.length_append, leB_length, List.flatMap_append, List.flatMap_cons, List.flatMap_nil, List.length_nil]
              omega
            have hn12 : 12 < n := by
              have h0 : 0 < (flatB l).length := by
                cases l with
                | nil => simp at n1
                | cons y l => simp [flatB, opB]
              have : n = 12 + (flatB l).length := by rw [← hn, HE.out]; simp only [encB, List.length_append, leB_length, flatB]
              omega
            rw [he5] at hown5
            have hR5 := Rd.of_own hown5
            have hR2 := Rd.of_own hown2c
            have hpos : 0 < (opB o).length := by simp [opB]
            rw [hlen5] at hR5
            obtain ⟨g5, c5, hu5, _, _⟩ := hown5.form (by omega)
            obtain ⟨g2, c2', hu2, _, _⟩ := hown2c.form (by omega)
            rw [hlen5] at hu5
            subst hu5
            injection hu2 with hA2 _ hc2'
            subst hA2 hc2'
            have hc5n : n + (opB o).length ≤ c5 := by obtain ⟨_, _, hv, h, _⟩ := hR5; injection hv with _ _ hv; omega
            have hc5m : c5 ≤ 9223372036854775807 := by obtain ⟨_, _, hv, _, h, _⟩ := hR5; injection hv with _ _ hv; simp only [maxLen] at h; omega
            have KS7 : ∀ W : World, Below wc.heap.size wc W → W.cell? ⟨w.heap.size, 0, none⟩ = some (.int .i64 o.kind) ∧ W.cell? ⟨w.heap.size, 1, none⟩ = some (.string o.key) ∧ W.cell? ⟨w.heap.size, 2, none⟩ = some (.string o.val) ∧
                (convert 26 9 (.slice (some ⟨g5, 12, none⟩) (n - 12) (c5 - 12))).run Try.prog W = .ok (.string ⟨(flatB l).toArray⟩) W ∧
                (convert 26 9 (.slice (some ⟨g2, 12, none⟩) (n - 12) (c2 - 12))).run Try.prog W = .ok (.string ⟨(flatB l).toArray⟩) W ∧
                (convert 26 9 (.slice (some ⟨g5, 0, none⟩) 8 c5)).run Try.prog W = .ok (.string ⟨(leB 8 seq.toNat).toArray⟩) W ∧
                (convert 26 9 (.slice (some ⟨g2, 0, none⟩) 8 c2)).run Try.prog W = .ok (.string ⟨(leB 8 seq.toNat).toArray⟩) W := by
              intro W hW
              have eb := KB'.out W (hc5.trans (hW.mono zc))
              have q5 := hR5.below hW
              have q2 := hR2.below hW
              have x1 := Rd_sub q5 (i := 12) (j := n) (by omega) (by omega)
              have x2 := Rd_sub q2 (i := 12) (j := n) (by omega) (by omega)
              have x3 := Rd_sub q5 (i := 0) (j := 8) (by omega) (by omega)
              have x4 := Rd_sub q2 (i := 0) (j := 8) (by omega) (by omega)
              have y1 : (((bc (encB seq.toNat (l ++ [o]))).drop (12 * 1)).take ((n - 12) * 1)) = bc (flatB l) := by
                rw [Nat.mul_one, Nat.mul_one, ← enc_tail seq.toNat l [o], ← HE.out, hn]; simp [bc]
              have y2 : (((bc (encR seq l)).drop (12 * 1)).take ((n - 12) * 1)) = bc (flatB l) := by
                have := enc_tail seq.toNat l []
                rw [List.append_nil, ← HE.out, hn] at this
                rw [Nat.mul_one, Nat.mul_one, ← this]; simp [bc]
              have y3 : (((bc (encB seq.toNat (l ++ [o]))).drop (0 * 1)).take ((8 - 0) * 1)) = bc (leB 8 seq.toNat) := by
                rw [← enc_head seq.toNat (l ++ [o])]; simp [bc]
              have y4 : (((bc (encR seq l)).drop (0 * 1)).take ((8 - 0) * 1)) = bc (leB 8 seq.toNat) := by
                rw [HE.out, ← enc_head seq.toNat l]; simp [bc]
              rw [y1] at x1; rw [y2] at x2; rw [y3] at x3; rw [y4] at x4
              have z1 := run_str (P := Try.prog) x1 Try.underlying26 Try.underlying5 Try.underlying9
              have z2 := run_str (P := Try.prog) x2 Try.underlying26 Try.underlying5 Try.underlying9
              have z3 := run_str (P := Try.prog) x3 Try.underlying26 Try.underlying5 Try.underlying9
              have z4 := run_str (P := Try.prog) x4 Try.underlying26 Try.underlying5 Try.underlying9
              exact ⟨by simp [World.cell?, eb], by simp [World.cell?, eb], by simp [World.cell?, eb], z1, z2, z3, z4⟩
            have KS8 := Lib.hid KS7
            have KZ := Lib.hid (fun W => size_calls o W (by have := ho.2.1; omega) (by have := ho.2.2.1; omega))
            clear KS7 hown5 hR5 hR2 hlen5 he5 hops5 ho hn
            have hf' : (checkB seq (l ++ [o]) != 0) = false := by simp [hf]
            generalize checkB seq (l ++ [o]) = r2 at *
            clear hf
            have hsI : sizeI o = ((opB o).length : Int) := hos.symm
            have hci : 12 ≤ (n : Int) := by omega
            have hc5' : (n : Int) ≤ (c5 : Int) := by omega
            have hn12' : ¬ c5 = 12 := by omega
            have h85 : (8 : Int) ≤ (c5 : Int) := by omega
            have hn2' : (n : Int) ≤ (c2 : Int) := by have := HN.out; omega
            have hn12'' : ¬ c2 = 12 := by omega
            have h82 : (8 : Int) ≤ (c2 : Int) := by omega
            have hadd : IntKind.i64.wrap ((n : Int) + ((opB o).length : Int)) = (n : Int) + ((opB o).length : Int) := IntWalk.i64_in _ (by omega)
            clear hos
            rw [hsI] at KZ
            generalize (opB o).length = q at *
            have KSW := KS8.out _ hbr
            go_wp2_with fail
            go_region_held3 (fun w' => w'.cell? ⟨w.heap.size, 0, none⟩ = some (.int .i64 o.kind) ∧ w'.cell? ⟨w.heap.size, 1, none⟩ = some (.string o.key) ∧ w'.cell? ⟨w.heap.size, 2, none⟩ = some (.string o.val) ∧ (convert 26 9 (.slice (some ⟨g5, 12, none⟩) (n - 12) (c5 - 12))).run Try.prog w' = .ok (.string ⟨(flatB l).toArray⟩) w' ∧ (convert 26 9 (.slice (some ⟨g2, 12, none⟩) (n - 12) (c2 - 12))).run Try.prog w' = .ok (.string ⟨(flatB l).toArray⟩) w' ∧ (convert 26 9 (.slice (some ⟨g5, 0, none⟩) 8 c5)).run Try.prog w' = .ok (.string ⟨(leB 8 seq.toNat).toArray⟩) w' ∧ (convert 26 9 (.slice (some ⟨g2, 0, none⟩) 8 c2)).run Try.prog w' = .ok (.string ⟨(leB 8 seq.toNat).toArray⟩) w')
              (first | exact KS8.out _ hb7 | exact KS8.out _ (below_drewN hbr 1))
              (first | (go_at_call 11; refine (KZ.out _).mono ?_; rintro e w7 ⟨rfl, hb7'⟩; have hb7 := hbr.drew.trans (hb7'.mono hzr)))
            all_goals
              go_wp2_with fail
              go_ret
              exact ⟨ret_bool rfl, HB2.out.trans ((hc5.mono (by omega)).trans (hb7.mono (by omega)))⟩
          · have hf' : (checkB seq (l ++ [o]) != 0) = true := by simpa using hf
            clear hn
            generalize checkB seq (l ++ [o]) = r2 at *
            clear hf
            go_wp2_with fail
            go_quiet (fail)
            go_wp2_with fail
            go_ret
            exact ⟨ret_bool rfl, below_drewN hbA _⟩
    · have he : encR seq l = [] := by rw [encR, if_neg hc]
      rw [he] at hown2c
      obtain ⟨A2, c2, rfl, _, _, _, _⟩ := Rd.of_own hown2c
      have hc' : (checkB seq l != 0) = true := by simpa using hc
      generalize checkB seq l = r1 at *
      clear hc
      go_wp2_with fail
      go_ret
      exact ⟨ret_bool rfl, HB2.out.trans (hc5.mono (by omega))⟩

set_option maxRecDepth 100000 in
set_option maxHeartbeats 400000 in
theorem BatchSizes_long (seq : Int) (l : List OpD) (o : OpD) (v : Value) (w : World) (hv : RdT w 3 opC v l) (h150 : ¬ l.length ≤ 150) :
    Calls Try.prog 3 #[.int .i64 seq, v, .agg #[.int .i64 o.kind, .string o.key, .string o.val]] w fun e w' => e = .returned (.bool true) ∧ Below w.heap.size w w' := by
  obtain ⟨A, c, rfl, hnc, hcm, q1, q2⟩ := hv
  clear q1 q2
  unfold maxLen at hcm
  have h' : (150 : Int) < l.length := by omega
  go_enter Try.func3, Try.ntmps3
  go_wp2_with fail
  refine (batched_calls _).mono ?_
  rintro e w1 ⟨rfl, hb1⟩
  go_wp2_with fail
  refine (batched_calls _).mono ?_
  rintro e w2 ⟨rfl, hb2⟩
  go_wp2_with fail
  go_ret
  have z1 := hb1.size
  simp only [World.size_alloc] at z1
  exact ⟨rfl, (((Below.refl _ _).alloc (Nat.le_refl _) _).trans (hb1.mono (by simp))).trans (hb2.mono (by omega))⟩
#print axioms BatchSizes_calls
#print axioms BatchSizes_long
end Go.Proofs.Ytmgpfckkafcllaa
