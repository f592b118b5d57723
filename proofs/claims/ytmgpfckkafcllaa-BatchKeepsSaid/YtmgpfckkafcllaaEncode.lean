/- batch.Encode. -/
import Derived.Test.YtmgpfckkafcllaaBatch
namespace Go.Proofs.Ytmgpfckkafcllaa
open Go Go.RowKit

def opB (o : OpD) : List UInt8 := UInt8.ofNat o.kind.toNat :: (textB o.key ++ if o.kind = 1 then textB o.val else [])
def encB (seq : Nat) (l : List OpD) : List UInt8 := leB 8 seq ++ leB 4 l.length ++ l.flatMap opB
theorem checkB_zero {seq : Int} {l : List OpD} (h : checkB seq l = 0) : (1 ≤ seq ∧ seq ≤ 72057594037927935 ∧ seq + l.length ≤ 72057594037927936) ∧ 0 < l.length ∧ l.length ≤ 200 ∧
    ∀ o ∈ l, 0 < o.key.size ∧ o.key.size ≤ 64 ∧ o.val.size ≤ 1000 ∧ (o.kind = 0 ∨ o.kind = 1) ∧ (o.kind = 0 → o.val.size = 0) := by
  have tl : ∀ s : ByteArray, s.toList.isEmpty = true ↔ s.size = 0 := by
    intro s
    rw [ByteArray.toList_eq, List.isEmpty_iff, Array.toList_eq_nil_iff, ← Array.size_eq_zero_iff]
    rfl
  unfold checkB at h
  split at h
  · omega
  · rename_i h1
    split at h
    · omega
    · rename_i h2
      split at h
      · omega
      · rename_i h3
        rw [not_or] at h1 h2 h3
        refine ⟨by omega, by omega, by omega, fun o ho => ?_⟩
        have a := h1.2
        have b := h2.2
        simp only [List.any_eq_true, not_exists, not_and] at a b
        have a := a o ho
        have b := b o ho
        simp only [longB, oddB, Bool.or_eq_true, decide_eq_true_eq, not_or, Bool.and_eq_true, bne_iff_ne, ne_eq, beq_iff_eq, Bool.not_eq_true', not_and] at a b
        obtain ⟨⟨b1, b2⟩, b3⟩ := b
        rw [tl] at b1
        refine ⟨by omega, by omega, by omega, ?_, fun h0 => ?_⟩
        · by_cases h0 : o.kind = 0
          · exact .inl h0
          · exact .inr (Decidable.not_not.1 (b2 h0))
        · have := b3 h0
          rw [Bool.not_eq_false] at this
          exact (tl _).1 this

set_option maxRecDepth 100000 in
set_option maxHeartbeats 400000 in
theorem Encode_no (seq : Int) (l : List OpD) (v : Value) (w : World) (hv : RdT w 3 opC v l) (hc : checkB seq l ≠ 0) :
    Calls Try.prog 10 #[.int .i64 seq, v] w fun e w' => e = .returned (.tuple #[.slice none 0 0, .int .i64 (checkB seq l)]) ∧ Below w.heap.size w w' := by
  have HC := Lib.hid (Check_calls seq l v w hv)
  generalize checkB seq l = r at *
  clear hv
  have hr : (r != 0) = true := by simpa using hc
  clear hc
  go_enter Try.func10, Try.ntmps10
  go_wp2_with (first | (go_at_call 15; refine HC.out.mono ?_; rintro e w1 ⟨rfl, hb1⟩))
  go_ret2
  exact ⟨rfl, hb1⟩

set_option maxRecDepth 100000 in
set_option maxHeartbeats 400000 in
theorem Encode_yes (seq : Nat) (l : List OpD) (v : Value) (w : World) (hv : RdT w 3 opC v l) (hc : checkB seq l = 0) :
    Calls Try.prog 10 #[.int .i64 (seq : Int), v] w fun e w' => ∃ v', e = .returned (.tuple #[v', .int .i64 0]) ∧ w'.ownsRow w.heap.size 5 1 v' (encB seq l).length (bc (encB seq l)) ∧ Below w.heap.size w w' := by
  have HC := Lib.hid (Check_calls seq l v w hv)
  rw [hc] at HC
  obtain ⟨⟨_, s2, _⟩, l1, l2, hops⟩ := checkB_zero hc
  have HO := Lib.hid hops
  have HV := Lib.hid hv
  clear hops hc
  obtain ⟨A, c, rfl, hnc, hcm, _, _⟩ := hv
  unfold maxLen at hcm
  rename_i q1 q2 q3 q4
  clear q1 q2 q3 q4
  go_enter Try.func10, Try.ntmps10
  go_wp2_with fail
  refine HC.out.mono ?_
  rintro e w1 ⟨rfl, hb1⟩
  go_wp2_with fail
  refine (Fixed_calls seq 8 (by omega) (by omega) w1).mono ?_
  rintro e w2 ⟨v2, rfl, hown2, hb2⟩
  go_wp2_with fail
  refine (Fixed_calls l.length 4 (by omega) (by omega) w2).mono ?_
  rintro e w3 ⟨v3, rfl, hown3, hb3⟩
  have z1 := hb1.size
  have z2 := hb2.size
  have z3 := hb3.size
  go_wp2_with (first
    | (at_builtin; refine wpL_app et_bytes (.tmp 32) (.tmp 33) rfl rfl (own_below hown2 hb3 z1) rfl rfl ((Rd.of_own hown3).src (bc_one _) Try.underlying26) (by omega) (by omega) ?_; intro v4 w4 hown4 hg4 hat4))
  have hb4 : Below w.heap.size w w4 := below_app ((hb1.trans (hb2.mono z1)).trans (hb3.mono (by omega))) hg4 (own_below hown2 hb3 z1) (Nat.le_refl _) (by omega)
  have hown4' : w4.ownsRow w.heap.size 5 1 v4 12 (bc (leB 8 seq ++ leB 4 l.length)) := own_cast hown4 rfl (by rw [bc_append])
  have z4 := hb4.size
  clear HC hown2 hown3 hown4 hg4 hat4 hb1 hb2 hb3 z1 z2 z3
  obtain ⟨p0, hp0⟩ : ∃ p0, leB 8 seq ++ leB 4 l.length = p0 := ⟨_, rfl⟩
  have hpl : p0.length = 12 := by rw [← hp0]; simp [leB_length]
  rw [hp0] at hown4'
  have HP := Lib.hid hp0
  have HL := Lib.hid hpl
  clear hp0 hpl
  go_loopw [7, 37] (fun bv iv wr => ∃ (k : Nat) (acc : List UInt8), k ≤ l.length ∧ iv = .int .i64 (k : Int) ∧ acc.length ≤ 12 + k * 2000 ∧ wr.ownsRow w.heap.size 5 1 bv acc.length (bc acc) ∧ Hid (acc = p0 ++ (l.take k).flatMap opB) ∧ Below w.heap.size w wr)
    (fun _ iv _ => l.length - (intOf iv).toNat)
  case atStart => exact ⟨0, p0, Nat.zero_le _, rfl, by rw [HL.out]; omega, own_cast hown4' HL.out.symm rfl, by simp [Hid], hb4⟩
  case round =>
    clear hown4' hb4 z4
    obtain ⟨k, acc, hk, rfl, hal, hown, hacc, hb⟩ := hrel
    have hsz := hb.size
    by_cases hkl : k < l.length
    · have hkl' : (k : Int) < l.length := by omega
      obtain ⟨b, off, c', hA, hblt, _, _, hcell⟩ := (RdT.at HV.out opC_len (by omega) hkl)
      injection hA with hA _ hcc
      subst hA hcc
      obtain ⟨a1, a2, a3, a4, a5⟩ := HO.out l[k] (List.getElem_mem _)
      obtain ⟨o, ho⟩ : ∃ o, o = l[k] := ⟨_, rfl⟩
      rw [← ho] at a1 a2 a3 a4 a5 hcell
      have HOK := Lib.hid ho
      clear ho
      have hcw : ∀ j u, (opC o)[j]? = some u → wr.cell? ⟨b, off + k * 3 + j, none⟩ = some u := fun j u hu => (hb.cell (p := ⟨b, _, none⟩) hblt).trans (hcell j u hu)
      have c0 : wr.cell? ⟨b, off + k * 3, none⟩ = some (.int .i64 o.kind) := hcw 0 _ rfl
      have c1 : wr.cell? ⟨b, off + k * 3 + 1, none⟩ = some (.string o.key) := hcw 1 _ rfl
      have c2 : wr.cell? ⟨b, off + k * 3 + 2, none⟩ = some (.string o.val) := hcw 2 _ rfl
      clear hcw hcell
      have A4 := Lib.hid a4
      have A5 := Lib.hid a5
      clear a4 a5
      go_wp2_with fail
      have K1 : ∀ (X Y : Obj) (w1 : World), (((wr.alloc X).alloc Y).drew).grownBy w1 u7.ownBlock → w1.heap[wr.heap.size]? = some X ∧ Below w.heap.size w w1 ∧ wr.heap.size + 2 ≤ w1.heap.size ∧
          ∀ v1 : Value, (v1.ownBlock = u7.ownBlock ∨ v1.ownBlock = some (((wr.alloc X).alloc Y).drew).heap.size) → some wr.heap.size ≠ v1.ownBlock := by
        intro X Y w1 hg
        have h1 : (((wr.alloc X).alloc Y).drew).heap[wr.heap.size]? = some X := (Below.heap_alloc (wr.alloc X) Y _ (by simp)).trans (heap_alloc_new wr X)
        have h2 := (hg.block wr.heap.size (by simp; omega) (own_far hown (Nat.le_refl _))).trans h1
        have h3 := below_app (((hb.alloc hsz X).alloc (by simp; omega) Y).drew) hg (((hown.alloc X).alloc Y).drew) (Nat.le_refl _) (by simp; omega)
        have h4 := hg.size
        simp at h4
        exact ⟨h2, h3, by omega, fun v1 hat => at_far hat (own_far hown (Nat.le_refl _)) (by simp; omega)⟩
      have KH := Lib.hid K1
      have KS := Lib.hid (fun (X : Obj) (u : Value) (h1 : u.oneCell' = true) => (src_one (P := Try.prog) (e := 5) Try.underlying26 h1 rfl (by simp) : Src Try.prog 1 26 (.slice (some ⟨wr.heap.size + 1, 0, none⟩) 1 1) 1 [u] (((wr.alloc X).alloc (.cells #[u] 5)).drew)))
      have KZ := Lib.hid (fun (X Y : Obj) => (by simp; omega : w.heap.size ≤ (((wr.alloc X).alloc Y).drew).heap.size))
      have htx : (textB o.key).length ≤ 80 := by have := putB_length o.key.size; simp [textB]; omega
      have htv : (textB o.val).length ≤ 1020 := by have := putB_length o.val.size; simp [textB]; omega
      have B1 : (acc.length + 1) * 1 ≤ 140737488355328 := by omega
      have B2 : (acc.length + 1 + (textB o.key).length) * 1 ≤ 140737488355328 := by omega
      have KP := Lib.hid (fun W => PutText_calls o.key (by omega) W)
      have KQ := Lib.hid (fun W => PutText_calls o.val (by omega) W)
      clear K1
      go_region_held3 (fun w' => w'.cell? ⟨wr.heap.size, 0, none⟩ = some (.int .i64 o.kind) ∧ w'.cell? ⟨wr.heap.size, 1, none⟩ = some (.string o.key)) (first | go_keep | (refine ⟨?_, ?_⟩ <;> simp [World.cell?, e1]; done) | (refine ⟨?_, ?_⟩ <;> simp [World.cell?, e2]; done) | (refine ⟨?_, ?_⟩ <;> simp [World.cell?, e3]; done))
        (first
          | (go_at_call 24; refine (KP.out _).mono ?_; rintro e w2 ⟨v2', rfl, hown2, hb2⟩
             have e2 := (hb2.block wr.heap.size (by omega)).trans e1)
          | (refine step_app et_bytes (.tmp 41) (.tmp 45) rfl rfl ((hown.alloc _).alloc _) rfl rfl (KS.out _ _ rfl) B1 (KZ.out _ _) ?_; intro v1 w1 hown1 hg1 hat1
             obtain ⟨e1, hb1, hz1, hfar⟩ := KH.out _ _ _ hg1
             replace hfar := hfar _ hat1)
          | (refine step_app et_bytes (.tmp 46) (.tmp 49) rfl rfl (own_below hown1 hb2 (Nat.le_refl _)) rfl rfl ((Rd.of_own hown2).src (bc_one _) Try.underlying26) B2 (Nat.le_trans hb1.size hb2.size) ?_; intro v3' w3 hown3 hg3 hat3
             have e3 : w3.heap[wr.heap.size]? = some (.cells #[.int .i64 o.kind, .string o.key, .string o.val] 24 (0, 0)) := (hg3.block _ (by have := hb2.size; omega) hfar).trans e2))
      have zz2 := hb2.size
      have hbA : Below w.heap.size w w3 := below_app (hb1.trans (hb2.mono hb1.size)) hg3 (own_below hown1 hb2 (Nat.le_refl _)) (Nat.le_refl _) (Nat.le_trans hb1.size hb2.size)
      have zz3 := hbA.size
      have d0 : w3.cell? ⟨wr.heap.size, 0, none⟩ = some (.int .i64 o.kind) := by simp [World.cell?, e3]
      have d2 : w3.cell? ⟨wr.heap.size, 2, none⟩ = some (.string o.val) := by simp [World.cell?, e3]
      have hcellsA : bc acc ++ [Value.int IntKind.u8 (IntKind.u8.wrap o.kind)] ++ bc (textB o.key) = bc (acc ++ (UInt8.ofNat o.kind.toNat :: textB o.key)) := by
        have hk0 : ((o.kind.toNat : Nat) : Int) = o.kind := by have := A4.out; omega
        rw [bc_append, bc_cons, bc_wrap, hk0, List.append_assoc]
      have hown3' : w3.ownsRow w.heap.size 5 1 v3' (acc ++ (UInt8.ofNat o.kind.toNat :: textB o.key)).length (bc (acc ++ (UInt8.ofNat o.kind.toNat :: textB o.key))) := own_cast hown3 (by simp; omega) hcellsA
      have htake : (l.take (k + 1)).flatMap opB = (l.take k).flatMap opB ++ opB o := by
        rw [List.take_succ_eq_append_getElem hkl, List.flatMap_append, ← HOK.out]; simp
      have HT := Lib.hid htake
      clear htake hcellsA hown3 hg3 hat3 hfar e1 e2 e3 hb1 hb2 hown1 hown2 hat1 hg1 hown c0 c1 c2
      by_cases hk1 : o.kind = 1
      · have hk1' : (o.kind == 1) = true := by simp [hk1]
        have HK1 := Lib.hid hk1
        clear hk1
        go_wp2_with (first
          | (go_at_call 24; refine (KQ.out _).mono ?_; rintro e w5 ⟨v5, rfl, hown5, hb5⟩)
          | (at_builtin; refine wpL_app et_bytes (.tmp 54) (.tmp 57) rfl rfl (own_below hown3' hb5 (Nat.le_refl _)) rfl rfl ((Rd.of_own hown5).src (bc_one _) Try.underlying26) (by simp; omega) (by have := hb5.size; omega) ?_; intro v6 w6 hown6 hg6 hat6))
        go_roundw
        case rel =>
          exact ⟨k + 1, acc ++ opB o, by omega, by go_num, by simp only [opB, HK1.out, List.length_append, List.length_cons, if_true]; omega, own_cast hown6 (by simp [opB, HK1.out]; omega) (by rw [← bc_append]; simp [opB, HK1.out]), by
            rw [HT.out, hacc.out, List.append_assoc]; rfl, below_app (hbA.trans (hb5.mono zz3)) hg6 (own_below hown3' hb5 (Nat.le_refl _)) (Nat.le_refl _) (by have := hb5.size; omega)⟩
        case measure => simp [intOf]; omega
      · have hk1' : (o.kind == 1) = false := by simpa using hk1
        have HK1 := Lib.hid hk1
        clear hk1
        go_wp2_with fail
        go_roundw
        case rel =>
          exact ⟨k + 1, acc ++ opB o, by omega, by go_num, by simp only [opB, if_neg HK1.out, List.length_append, List.length_cons, List.append_nil]; omega, own_cast hown3' (by simp [opB, HK1.out]) (by simp [opB, HK1.out]), by
            rw [HT.out, hacc.out, List.append_assoc]; rfl, hbA⟩
        case measure => simp [intOf]; omega
    · obtain rfl : k = l.length := by omega
      go_wp2_with fail
      go_ret2
      refine ⟨_, rfl, ?_, hb⟩
      have e : acc = encB seq l := by rw [hacc.out, ← HP.out, List.take_length]; rfl
      exact own_cast hown (by rw [e]) (by rw [e])

/-- What Encode hands back. -/
def encR (seq : Int) (l : List OpD) : List UInt8 := if checkB seq l = 0 then encB seq.toNat l else []
theorem Encode_calls (seq : Int) (l : List OpD) (v : Value) (w : World) (hv : RdT w 3 opC v l) :
    Calls Try.prog 10 #[.int .i64 seq, v] w fun e w' => ∃ v', e = .returned (.tuple #[v', .int .i64 (checkB seq l)]) ∧ w'.ownsRow w.heap.size 5 1 v' (encR seq l).length (bc (encR seq l)) ∧ Below w.heap.size w w' := by
  by_cases hc : checkB seq l = 0
  · have h1 := (checkB_zero hc).1
    obtain ⟨n, rfl⟩ : ∃ n : Nat, seq = n := ⟨seq.toNat, by omega⟩
    refine (Encode_yes n l v w hv hc).mono ?_
    rintro e w' ⟨v', rfl, hown, hb⟩
    have he : encR n l = encB n l := by rw [encR, if_pos hc]; rfl
    exact ⟨v', by rw [hc], by rw [he]; exact hown, hb⟩
  · refine (Encode_no seq l v w hv hc).mono ?_
    rintro e w' ⟨rfl, hb⟩
    have he : encR seq l = [] := by rw [encR, if_neg hc]
    exact ⟨_, rfl, by rw [he]; exact World.ownsRow_nil _ _ _ _, hb⟩
#print axioms Encode_yes
#print axioms Encode_no
end Go.Proofs.Ytmgpfckkafcllaa
