/- batch.input. -/
import Derived.Test.YtmgpfckkafcllaaText
namespace Go.Proofs.Ytmgpfckkafcllaa
open Go Go.RowKit

def inputAt (w : World) (g : Nat) (v : Value) (bad : Bool) : Prop := w.heap[g]? = some (.cells #[v, .bool bad] 63 (0, 0))
def fixedS (l : List UInt8) (bad : Bool) (s : Nat) : Nat × List UInt8 × Bool := if l.length < s then (0, l, true) else (leV (l.take s), l.drop s, bad)
def textS (l : List UInt8) (bad : Bool) (most : Nat) : List UInt8 × List UInt8 × Bool := ((textG l most).1, l.drop (textG l most).2.1, bad || (textG l most).2.2 != 0)

theorem in_set {w : World} {g : Nat} {v : Value} {bad : Bool} (h : inputAt w g v bad) (v' : Value) :
    inputAt (w.setCell ⟨g, 0, none⟩ v') g v' bad ∧ w.grownBy (w.setCell ⟨g, 0, none⟩ v') (some g) ∧ (w.setCell ⟨g, 0, none⟩ v').heap.size = w.heap.size := by
  unfold inputAt at *
  rw [setCell_eq_setRow w g 0 _ _ _ v' h]
  exact ⟨setRow_heap w g _ _ _ _ h, ⟨rfl, rfl, rfl, by simp, fun k _ hk => setRow_other w g k _ (fun e => hk (by simp [e]))⟩, by simp⟩
theorem in_bad {w : World} {g : Nat} {v : Value} {bad : Bool} (h : inputAt w g v bad) (b : Bool) :
    inputAt (w.setCell ⟨g, 1, none⟩ (.bool b)) g v b ∧ w.grownBy (w.setCell ⟨g, 1, none⟩ (.bool b)) (some g) ∧ (w.setCell ⟨g, 1, none⟩ (.bool b)).heap.size = w.heap.size := by
  unfold inputAt at *
  rw [setCell_eq_setRow w g 1 _ _ _ _ h]
  exact ⟨setRow_heap w g _ _ _ _ h, ⟨rfl, rfl, rfl, by simp, fun k _ hk => setRow_other w g k _ (fun e => hk (by simp [e]))⟩, by simp⟩
theorem RdB.keepB {W0 w : World} (hb : Below W0.heap.size W0 w) {v : Value} {l : List UInt8} (h : RdB W0 v l) : RdB w v l := Rd.below h hb
theorem RdB.head {w : World} {A : Option Addr} {n c : Nat} {l : List UInt8} (h : RdB w (.slice A n c) l) {s : Nat} (hs : s ≤ l.length) : RdB w (.slice A s c) (l.take s) := by
  obtain ⟨A', c', e, h1, h2, h3, h4⟩ := h
  injection e with e1 e2 e3
  subst e1 e2 e3
  have hl : (l.take s).length = s := by simp; omega
  refine ⟨A, c, by rw [hl], by rw [hl]; omega, by omega, by simp [bc], fun hn => ?_⟩
  rw [hl] at hn
  obtain ⟨ad, rfl, hc⟩ := h4 (by omega)
  refine ⟨ad, rfl, fun j u hu => hc j u ?_⟩
  simp only [bc, List.map_take] at hu ⊢
  rw [List.getElem?_take] at hu
  split at hu
  · exact hu
  · simp at hu
theorem RdB.tail {w : World} {A : Option Addr} {n c : Nat} {l : List UInt8} (h : RdB w (.slice A n c) l) {s : Nat} (hs : s ≤ l.length) : RdB w (.slice (if c = s then A else A.map (·.add s)) (l.length - s) (c - s)) (l.drop s) := by
  have := h.cut s l.length hs (Nat.le_refl _)
  rwa [List.take_of_length_le (by simp)] at this

set_option maxRecDepth 100000 in
set_option maxHeartbeats 400000 in
theorem fixed_calls (W0 w : World) (hb : Below W0.heap.size W0 w) (g : Nat) (v : Value) (bad : Bool) (l : List UInt8) (hin : inputAt w g v bad) (hv : RdB W0 v l) (s : Nat) (hs : s ≤ 8) :
    Calls Try.prog 30 #[.pointer (some ⟨g, 0, none⟩), .int .i64 (s : Int)] w fun e w' =>
      ∃ v', e = .returned (.int .u64 ((fixedS l bad s).1 : Int)) ∧ RdB W0 v' (fixedS l bad s).2.1 ∧ inputAt w' g v' (fixedS l bad s).2.2 ∧ w.grownBy w' (some g) ∧ w'.heap.size = w.heap.size := by
  have HV := Lib.hid hv
  obtain ⟨A, c, rfl, hnc, hcm, q1, q2⟩ := hv
  clear q1 q2
  unfold maxLen at hcm
  have c0 : w.cell? ⟨g, 0, none⟩ = some (.slice A l.length c) := by unfold inputAt at hin; simp [World.cell?, hin]
  have c1 : w.cell? ⟨g, 1, none⟩ = some (.bool bad) := by unfold inputAt at hin; simp [World.cell?, hin]
  have f0 : w.frozen? ⟨g, 0, none⟩ = false := by unfold inputAt at hin; simp [World.frozen?, hin]
  have f1 : w.frozen? ⟨g, 1, none⟩ = false := by unfold inputAt at hin; simp [World.frozen?, hin]
  have HI := Lib.hid hin
  clear hin
  go_enter Try.func30, Try.ntmps30
  by_cases h : l.length < s
  · have h' : (l.length : Int) < s := by omega
    go_wp2_with fail
    go_ret
    obtain ⟨x1, x2, x3⟩ := in_bad HI.out true
    rw [show fixedS l bad s = (0, l, true) from if_pos h]
    exact ⟨_, rfl, HV.out, x1, x2, x3⟩
  · have h' : ¬ (l.length : Int) < s := by omega
    have HW := Lib.hid (Whole_calls (l.take s) (.slice A s c) w ((HV.out.head (by omega)).keepB hb) (by simp; omega))
    have HT := Lib.hid (HV.out.tail (s := s) (by omega))
    by_cases hcs : c = s
    · subst hcs
      go_wp2_with (first | (go_at_call 44; refine HW.out.mono ?_; rintro e w1 ⟨rfl, rfl⟩))
      go_ret
      obtain ⟨x1, x2, x3⟩ := in_set HI.out (.slice A 0 0)
      rw [show fixedS l bad c = (leV (l.take c), l.drop c, bad) from if_neg h]
      have hT := HT.out
      rw [if_pos trivial, Nat.sub_self, show l.length - c = 0 by omega] at hT
      exact ⟨_, rfl, hT, x1, x2, x3⟩
    · go_wp2_with (first | (go_at_call 44; refine HW.out.mono ?_; rintro e w1 ⟨rfl, rfl⟩))
      go_ret
      obtain ⟨x1, x2, x3⟩ := in_set HI.out (.slice (Option.map (fun x => x.add s) A) (l.length - s) (c - s))
      rw [show fixedS l bad s = (leV (l.take s), l.drop s, bad) from if_neg h]
      have hT := HT.out
      rw [if_neg hcs] at hT
      exact ⟨_, rfl, hT, x1, x2, x3⟩

set_option maxRecDepth 100000 in
set_option maxHeartbeats 400000 in
theorem text_calls (W0 w : World) (hb : Below W0.heap.size W0 w) (g : Nat) (v : Value) (bad : Bool) (l : List UInt8) (hin : inputAt w g v bad) (hv : RdB W0 v l) (most : Nat) (hm : most < 4294967296) :
    Calls Try.prog 31 #[.pointer (some ⟨g, 0, none⟩), .int .i64 (most : Int)] w fun e w' =>
      ∃ v', e = .returned (.string ⟨(textS l bad most).1.toArray⟩) ∧ RdB W0 v' (textS l bad most).2.1 ∧ inputAt w' g v' (textS l bad most).2.2 ∧ w.grownBy w' (some g) ∧ w'.heap.size = w.heap.size := by
  have HV := Lib.hid hv
  have HC := Lib.hid (GetText_calls l most hm v w (hv.keepB hb))
  have hle := textG_le l most
  obtain ⟨r, hr⟩ : ∃ r, textG l most = r := ⟨_, rfl⟩
  have HE : Hid (textS l bad most = (r.1, l.drop r.2.1, bad || r.2.2 != 0)) := by
    show _ = _
    rw [← hr]; rfl
  rw [hr] at HC hle
  clear hr
  obtain ⟨s, k, e⟩ := r
  simp only at HC hle HE
  obtain ⟨A, c, rfl, hnc, hcm, q1, q2⟩ := hv
  clear q1 q2
  unfold maxLen at hcm
  have c0 : w.cell? ⟨g, 0, none⟩ = some (.slice A l.length c) := by unfold inputAt at hin; simp [World.cell?, hin]
  have c1 : w.cell? ⟨g, 1, none⟩ = some (.bool bad) := by unfold inputAt at hin; simp [World.cell?, hin]
  have f0 : w.frozen? ⟨g, 0, none⟩ = false := by unfold inputAt at hin; simp [World.frozen?, hin]
  have f1 : w.frozen? ⟨g, 1, none⟩ = false := by unfold inputAt at hin; simp [World.frozen?, hin]
  have HI := Lib.hid hin
  clear hin
  have hle' : (k : Int) ≤ l.length := by omega
  have HT := Lib.hid (HV.out.tail (s := k) hle)
  go_enter Try.func31, Try.ntmps31
  by_cases hcs : c = k
  · subst hcs
    cases bad
    · go_wp2_with (first | (go_at_call 45; refine HC.out.mono ?_; rintro e w1 ⟨rfl, rfl⟩))
      go_ret
      obtain ⟨y1, y2, y3⟩ := in_bad HI.out (e != 0)
      obtain ⟨x1, x2, x3⟩ := in_set y1 (.slice A 0 0)
      have hT := HT.out
      rw [if_pos trivial, Nat.sub_self, show l.length - c = 0 by omega] at hT
      rw [HE.out]
      exact ⟨_, rfl, hT, x1, y2.trans x2, x3.trans y3⟩
    · go_wp2_with (first | (go_at_call 45; refine HC.out.mono ?_; rintro e w1 ⟨rfl, rfl⟩))
      go_ret
      obtain ⟨y1, y2, y3⟩ := in_bad HI.out true
      obtain ⟨x1, x2, x3⟩ := in_set y1 (.slice A 0 0)
      have hT := HT.out
      rw [if_pos trivial, Nat.sub_self, show l.length - c = 0 by omega] at hT
      rw [HE.out]
      exact ⟨_, rfl, hT, x1, y2.trans x2, x3.trans y3⟩
  · cases bad
    · go_wp2_with (first | (go_at_call 45; refine HC.out.mono ?_; rintro e w1 ⟨rfl, rfl⟩))
      go_ret
      obtain ⟨y1, y2, y3⟩ := in_bad HI.out (e != 0)
      obtain ⟨x1, x2, x3⟩ := in_set y1 (.slice (Option.map (fun x => x.add k) A) (l.length - k) (c - k))
      have hT := HT.out
      rw [if_neg hcs] at hT
      rw [HE.out]
      exact ⟨_, rfl, hT, x1, y2.trans x2, x3.trans y3⟩
    · go_wp2_with (first | (go_at_call 45; refine HC.out.mono ?_; rintro e w1 ⟨rfl, rfl⟩))
      go_ret
      obtain ⟨y1, y2, y3⟩ := in_bad HI.out true
      obtain ⟨x1, x2, x3⟩ := in_set y1 (.slice (Option.map (fun x => x.add k) A) (l.length - k) (c - k))
      have hT := HT.out
      rw [if_neg hcs] at hT
      rw [HE.out]
      exact ⟨_, rfl, hT, x1, y2.trans x2, x3.trans y3⟩
end Go.Proofs.Ytmgpfckkafcllaa
