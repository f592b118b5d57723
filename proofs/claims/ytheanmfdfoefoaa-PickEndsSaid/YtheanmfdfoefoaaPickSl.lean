/- slices.Clone, Grow, Concat, MinFunc at tables. -/
import Derived.Test.YtheanmfdfoefoaaPickGo
import Derived.Lib.AppendZeros
namespace Go.Proofs.Ytheanmfdfoefoaa
open Go Go.RowKit

theorem metaC_oneP (l : List MetaD) : ∀ u ∈ l.flatMap metaC, u.oneCell' = true := by
  intro u hu
  obtain ⟨x, _, hx⟩ := List.mem_flatMap.1 hu
  exact metaC_one x u hx
set_option maxRecDepth 100000 in
set_option maxHeartbeats 400000 in
theorem Clone_calls (l : List MetaD) (v : Value) (w : World) (hv : RdT w 4 metaC v l) (hl : l.length ≤ 1000000) :
    Calls Try.prog 57 #[v] w fun e w' => ∃ v', e = .returned v' ∧ w'.ownsRow w.heap.size 51 4 v' l.length (l.flatMap metaC) ∧ Below w.heap.size w w' := by
  have HS := Lib.hid (fun (W : World) (hW : ∀ b, b < w.heap.size → W.heap[b]? = w.heap[b]?) => Rd.src (P := Try.prog) (Rd.over hv hW) (metaC_oneP l) Try.underlying30)
  have hz := hv
  obtain ⟨A, c, rfl, hnc, hcm⟩ := hv.len
  have hnil : A = none → l = [] := fun h => by
    subst h
    obtain ⟨A', c', hv', _, _, _, h5⟩ := hz
    rcases Nat.eq_zero_or_pos l.length with h0 | h0
    · exact List.eq_nil_of_length_eq_zero h0
    · obtain ⟨ad, h6, _⟩ := h5 h0
      injection hv' with e1
      rw [h6] at e1; cases e1
  clear hz hv
  have heq := fun W (a : Option Addr) (n c : Nat) => Lib.run_eql_slice_nil (P := Try.prog) W 30 51 a n c 0 0 Try.underlying30
  go_enter Try.func57, Try.ntmps57
  cases A with
  | none =>
    obtain rfl := hnil rfl
    go_wp2_with fail
    go_ret
    exact ⟨_, rfl, World.ownsRow_nil _ _ _ _, Below.refl _ _⟩
  | some a =>
    clear hnil
    go_wp2_with (at_builtin; refine wpL_app et_emeta (.tmp 5) (.tmp 6) rfl rfl (own0 (base := w.heap.size) (heap_alloc_new w _) (Nat.le_refl _)) rfl rfl (HS.out _ (fun b hb => Below.heap_alloc _ _ _ hb)) (by omega) (by simp) ?_; intro v1 w1 hown1 hg1 hat1)
    go_ret
    exact ⟨_, rfl, own_cast hown1 (by omega) (by simp), grow_below hg1 ((Below.refl _ _).alloc (Nat.le_refl _) _) (Nat.le_refl _) (fun k hk => by simp [Value.ownBlock] at hk; omega)⟩

set_option maxRecDepth 100000 in
set_option maxHeartbeats 400000 in
theorem Grow_calls (n : Nat) (w : World) (hn : n ≤ 3000000) :
    Calls Try.prog 110 #[.slice none 0 0, .int .i64 (n : Int)] w fun e w' => ∃ v', e = .returned v' ∧ w'.ownsRow w.heap.size 51 4 v' 0 [] ∧ Below w.heap.size w w' := by
  have h0 : (0 : Int) ≤ n := by omega
  have hnn : (n : Int) ≤ 3000000 := by omega
  go_enter Try.func110, Try.ntmps110
  by_cases hp : 0 < n
  · have hp' : (n : Int) > 0 := by omega
    obtain ⟨i0, hi, hz0, hz1, hz2⟩ := et_emeta.hi
    have hr := fun ty W => Lib.run_append_nil_zeros (P := Try.prog) W 30 3 ty 51 i0 _ .i64 .i64 Try.underlying30 Try.underlying3 hi hz0 n hp (by omega) (by omega) (by rw [hz2]; omega)
    have hge := grownCap_ge w n 0 51
    have hle := grownCap_le_maxLen w n 0 51 (by unfold maxLen; omega)
    have hcap : 0 < grownCap w n 0 51 := by omega
    go_wp2_with (at_builtin; refine Lib.wpList_append_run _ rfl _ _ _ _ rfl _ _ rfl rfl _ _ (hr _ _) ?_)
    go_ret
    refine ⟨_, rfl, ⟨by simp, .inr ⟨w.heap.size, _, _, rfl, Nat.le_refl _, heap_alloc_new w.drew _, Nat.zero_le _, hle, ?_, by simp⟩⟩, ((Below.refl _ _).drew).alloc (Nat.le_refl _) _⟩
    simp only [Array.size_append, size_zeroCells]
    rw [← Nat.add_mul]; congr 1; omega
  · obtain rfl : n = 0 := by omega
    go_wp2_with fail
    go_ret
    exact ⟨_, rfl, World.ownsRow_nil _ _ _ _, Below.refl _ _⟩

/-- What has been taken of two lists. -/
def twoTo (l m : List MetaD) (k : Nat) : List MetaD := if k = 0 then [] else if k = 1 then l else l ++ m
set_option maxRecDepth 100000 in
set_option maxHeartbeats 800000 in
theorem Concat_calls (l m : List MetaD) (v u : Value) (w : World) (B : Nat) (hv : RdT w 4 metaC v l) (hu : RdT w 4 metaC u m) (hl : l.length ≤ 1000000) (hm : m.length ≤ 1000000)
    (hB : w.cell? ⟨B, 0, none⟩ = some v ∧ w.cell? ⟨B, 1, none⟩ = some u) :
    Calls Try.prog 88 #[.slice (some ⟨B, 0, none⟩) 2 2] w fun e w' => ∃ v', e = .returned v' ∧ w'.ownsRow w.heap.size 51 4 v' (l ++ m).length ((l ++ m).flatMap metaC) ∧ Below w.heap.size w w' := by
  have HV := Lib.hid hv
  have HU := Lib.hid hu
  obtain ⟨A, c, rfl, hnc, hcm⟩ := hv.len
  obtain ⟨A2, c2, rfl, hnc2, hcm2⟩ := hu.len
  obtain ⟨q0, q1⟩ := hB
  have hBl : B < w.heap.size := World.block_lt_of_cell? w _ q0
  have HB := Lib.hid (And.intro q0 q1)
  clear hv hu
  go_enter Try.func88, Try.ntmps88
  go_wp2_with fail
  go_loop [3, 11] (fun nv iv => ∃ k : Nat, k ≤ 2 ∧ iv = .int .i64 (k : Int) ∧ nv = .int .i64 (((twoTo l m k).length : Nat) : Int))
    (fun _ iv => 2 - (intOf iv).toNat)
  case atStart => exact ⟨0, by omega, rfl, rfl⟩
  case round =>
    obtain ⟨k, hk, rfl, rfl⟩ := hrel
    obtain rfl | rfl | rfl : k = 0 ∨ k = 1 ∨ k = 2 := by omega
    · simp only [twoTo, if_true]
      go_wp2_with fail
      go_round
      case rel => exact ⟨1, by omega, by go_num, by simp⟩
      case measure => simp [intOf]
    · simp only [twoTo, if_true, Nat.one_ne_zero, if_false]
      go_wp2_with fail
      go_round
      case rel => exact ⟨2, by omega, by go_num, by simp⟩
      case measure => simp [intOf]
    · have e2 : (((twoTo l m 2).length : Nat) : Int) = ((l.length + m.length : Nat) : Int) := by simp [twoTo]
      rw [e2]
      clear e2
      clear q0 q1
      have KG := Lib.hid (Grow_calls (l.length + m.length) w (by omega))
      go_wp2_with fail
      refine KG.out.mono ?_
      rintro e w1 ⟨v1, rfl, hown1, hb1⟩
      go_wp2_with fail
      go_loopw [6, 27] (fun ov iv wr => ∃ k : Nat, k ≤ 2 ∧ iv = .int .i64 (k : Int) ∧ wr.ownsRow w.heap.size 51 4 ov (twoTo l m k).length ((twoTo l m k).flatMap metaC) ∧ Below w.heap.size w wr)
        (fun _ iv _ => 2 - (intOf iv).toNat)
      case atStart => exact ⟨0, by omega, rfl, own_cast hown1 rfl rfl, hb1⟩
      case round =>
        clear hown1 hb1 KG
        obtain ⟨k, hk, rfl, hown, hb⟩ := hrel
        have hsz := hb.size
        have q0 := (below_at hb hBl 0).trans HB.out.1
        have q1 := (below_at hb hBl 1).trans HB.out.2
        have HS1 := Lib.hid (Rd.src (P := Try.prog) (HV.out.below hb) (metaC_oneP l) Try.underlying30)
        have HS2 := Lib.hid (Rd.src (P := Try.prog) (HU.out.below hb) (metaC_oneP m) Try.underlying30)
        obtain rfl | rfl | rfl : k = 0 ∨ k = 1 ∨ k = 2 := by omega
        · have hown0 : wr.ownsRow w.heap.size 51 4 _ 0 [] := hown
          go_wp2_with (at_builtin; refine wpL_app et_emeta (.tmp 31) (.tmp 32) rfl rfl hown0 rfl rfl HS1.out (by omega) hsz ?_; intro v2 w2 hown2 hg2 hat2)
          go_roundw
          case rel => exact ⟨1, by omega, by go_num, own_cast hown2 (by simp [twoTo]) (by simp [twoTo]), below_app hb hg2 hown0 (Nat.le_refl _) hsz⟩
          case measure => simp [intOf]
        · have hown0 : wr.ownsRow w.heap.size 51 4 _ l.length (l.flatMap metaC) := hown
          go_wp2_with (at_builtin; refine wpL_app et_emeta (.tmp 31) (.tmp 32) rfl rfl hown0 rfl rfl HS2.out (by omega) hsz ?_; intro v2 w2 hown2 hg2 hat2)
          go_roundw
          case rel => exact ⟨2, by omega, by go_num, own_cast hown2 (by simp [twoTo]) (by simp [twoTo]), below_app hb hg2 hown0 (Nat.le_refl _) hsz⟩
          case measure => simp [intOf]
        · obtain ⟨A3, c3, hov, _, _, _, _⟩ := Rd.of_own hown
          subst hov
          go_wp2_with fail
          go_ret
          exact ⟨_, rfl, hown, hb⟩

theorem set4_blk {w : World} {b : Nat} {t : TypeId} {x0 x1 x2 x3 a0 a1 a2 a3 : Value} (h : w.heap[b]? = some (.cells #[x0, x1, x2, x3] t (0, 0))) :
    ((((w.setCell ⟨b, 0, none⟩ a0).setCell ⟨b, 1, none⟩ a1).setCell ⟨b, 2, none⟩ a2).setCell ⟨b, 3, none⟩ a3).heap[b]? = some (.cells #[a0, a1, a2, a3] t (0, 0)) := by
  have h1 := heap_setCell_same w b 0 _ t a0 h
  have h2 := heap_setCell_same _ b 1 _ t a1 h1
  have h3 := heap_setCell_same _ b 2 _ t a2 h2
  have h4 := heap_setCell_same _ b 3 _ t a3 h3
  rw [h4]; simp
theorem set4_far {w : World} {b k : Nat} {a0 a1 a2 a3 : Value} (hk : k ≠ b) :
    ((((w.setCell ⟨b, 0, none⟩ a0).setCell ⟨b, 1, none⟩ a1).setCell ⟨b, 2, none⟩ a2).setCell ⟨b, 3, none⟩ a3).heap[k]? = w.heap[k]? := by
  rw [Below.heap_setCell _ _ _ _ hk, Below.heap_setCell _ _ _ _ hk, Below.heap_setCell _ _ _ _ hk, Below.heap_setCell _ _ _ _ hk]
theorem below_set4 {B b : Nat} {w0 w : World} {a0 a1 a2 a3 : Value} (h : Below B w0 w) (hb : B ≤ b) :
    Below B w0 ((((w.setCell ⟨b, 0, none⟩ a0).setCell ⟨b, 1, none⟩ a1).setCell ⟨b, 2, none⟩ a2).setCell ⟨b, 3, none⟩ a3) :=
  (((h.setCell hb _).setCell hb _).setCell hb _).setCell hb _
def metaVA (m : MetaD) : Array Value := #[.int .i64 m.file, .int .i64 m.size, .string m.first, .string m.last]
theorem meta_cells {w : World} {b : Nat} {t : TypeId} {m : MetaD} (h : w.heap[b]? = some (.cells (metaVA m) t (0, 0))) :
    (w.cell? ⟨b, 0, none⟩ = some (.int .i64 m.file) ∧ w.cell? ⟨b, 1, none⟩ = some (.int .i64 m.size) ∧ w.cell? ⟨b, 2, none⟩ = some (.string m.first) ∧ w.cell? ⟨b, 3, none⟩ = some (.string m.last)) ∧ ∀ k, w.frozen? ⟨b, k, none⟩ = false := by
  refine ⟨⟨?_, ?_, ?_, ?_⟩, fun k => ?_⟩
  · simp [World.cell?, h, metaVA]
  · simp [World.cell?, h, metaVA]
  · simp [World.cell?, h, metaVA]
  · simp [World.cell?, h, metaVA]
  · simp [World.frozen?, h]
def leastTo (l : List MetaD) (k : Nat) : MetaD := (l.take k).foldl (fun a m => if m.file < a.file then m else a) (headM l)
theorem leastTo_next {l : List MetaD} {k : Nat} (hk : k < l.length) : leastTo l (k + 1) = if l[k].file < (leastTo l k).file then l[k] else leastTo l k := by unfold leastTo; rw [fold_next hk]
theorem leastTo_mem {l : List MetaD} {k : Nat} (h : l ≠ []) : leastTo l k ∈ l := by
  have key : ∀ (l : List MetaD) (a : MetaD), l.foldl (fun a m => if m.file < a.file then m else a) a = a ∨ l.foldl (fun a m => if m.file < a.file then m else a) a ∈ l := by
    intro l
    induction l with
    | nil => intro a; simp
    | cons m l ih =>
      intro a
      simp only [List.foldl_cons, List.mem_cons]
      rcases ih (if m.file < a.file then m else a) with h | h
      · rw [h]; split <;> simp
      · exact .inr (.inr h)
  unfold leastTo
  rcases key (l.take k) (headM l) with h1 | h1
  · rw [h1]; cases l with
    | nil => exact absurd rfl h
    | cons m l => simp [headM]
  · exact List.mem_of_mem_take h1
theorem leastTo_one {l : List MetaD} (h : l ≠ []) : leastTo l 1 = headM l := by
  cases l with
  | nil => exact absurd rfl h
  | cons m l => simp [leastTo, headM]
end Go.Proofs.Ytheanmfdfoefoaa
