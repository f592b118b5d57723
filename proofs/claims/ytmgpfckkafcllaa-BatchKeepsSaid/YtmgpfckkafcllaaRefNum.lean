/- The document's numbers and texts (assartref03). -/
import Derived.Test.YtmgpfckkafcllaaText
import Derived.Deep.RegionLaw
namespace Go.Proofs.Ytmgpfckkafcllaa
open Go Go.RowKit

def str (l : List UInt8) : ByteArray := ⟨l.toArray⟩
theorem str_append (a b : List UInt8) : str a ++ str b = str (a ++ b) := by
  apply ByteArray.ext
  show (str a ++ str b).data = _
  simp [str]
theorem str_size (a : List UInt8) : (str a).size = a.length := by simp [str, ByteArray.size]
theorem run_cat {P : Program} (a b : List UInt8) (h : a.length + b.length ≤ 9223372036854775807) (W : World) : (Op.stringOp .add (str a) (str b)).run P W = .ok (.string (str (a ++ b))) W := by
  rw [run_string_add_sum _ (str a) (str b) (by rw [str_size, str_size]; exact h), str_append]
theorem step_conv {P : Program} {ops : Array Oper} {o : Oper} {a : Act} {K : Act → World → Prop} {Q : Exit → Act → World → Prop} {F : Prop} (x : Operand) (hgd : o.guard = none) {src dst e : TypeId}
    (ho : o.op = .convert src dst x) {w : World} {v : Value} {l : List UInt8} {n : Nat} (hx : a.eval x = v) (h : Rd w 1 v n (bc l)) (hs : P.underlying src = some (.slice e)) (he : P.underlying e = some (.int .u8)) (hd : P.underlying dst = some .string)
    (hk : K (a.put o.dst (.string ⟨l.toArray⟩)) w) : if Region.wanted o (yielded ops a.tmps) = true then Oper.wp P o a w K Q else F := by
  have hw : Region.wanted o (yielded ops a.tmps) = true := by simp [Region.wanted, hgd]
  rw [if_pos hw]
  unfold Oper.wp execOp
  simp only [ho, hx, Sem.run_bind, run_str h hs he hd, Result.andThen_ok, Sem.run_pure]
  exact hk
theorem rd_one {W : World} {B m : Nat} {e : TypeId} {fr : Nat × Nat} (h : W.heap[B]? = some (.cells #[.int .u8 (m : Int)] e fr)) (hm : m < 256) : RdB W (.slice (some ⟨B, 0, none⟩) 1 1) [UInt8.ofNat m] := by
  unfold RdB
  rw [bc_small m hm]
  exact Rd_block (cs := #[.int .u8 (m : Int)]) h rfl (Nat.le_refl _) (by decide)

set_option maxRecDepth 100000 in
set_option maxHeartbeats 400000 in
theorem RPut_calls : ∀ (n : Nat), n < U64 → ∀ w : World, Calls Try.prog 42 #[.int .u64 (n : Int)] w fun e w' => e = .returned (.string (str (putB n))) ∧ Below w.heap.size w w' := by
  intro n
  induction n using Nat.strongRecOn with
  | ind n ih =>
    intro hn w
    go_enter Try.func42, Try.ntmps42
    by_cases h : n < 128
    · have h' : (n : Int) < 128 := by omega
      have hcv := run_str (P := Try.prog) (rd_one (m := n) (heap_alloc_new w (.cells #[.int .u8 (n : Int)] 5)) (by omega)) Try.underlying26 Try.underlying5 Try.underlying9
      go_wp2_with fail
      go_ret
      refine ⟨by rw [putB_small n h]; rfl, (Below.refl _ _).alloc (Nat.le_refl _) _⟩
    · have h' : ¬ (n : Int) < 128 := by omega
      have hp := putB_big n (by omega) hn
      have e3 : IntKind.u64.wrap ((n : Int) / 128) = ((n / 128 : Nat) : Int) := by rw [IntWalk.u64_in _ (by unfold U64 at hn; omega)]; omega
      have e2 : IntKind.u8.wrap (IntKind.u64.wrap ((n : Int).tmod 128 + 128)) = ((n % 128 + 128 : Nat) : Int) := by
        rw [Int.tmod_eq_emod_of_nonneg (by omega), IntWalk.u64_in _ (by omega), IntKind.wrap_u8']; omega
      have IH : Hid (∀ W : World, Calls Try.prog 42 #[.int .u64 (IntKind.u64.wrap ((n : Int) / 128))] W fun e w' => e = .returned (.string (str (putB (n / 128)))) ∧ Below W.heap.size W w') := fun W => by
        rw [e3]; exact ih (n / 128) (by omega) (by omega) W
      have hc1 : ∀ W : World, (convert 26 9 (.slice (some ⟨W.heap.size, 0, none⟩) 1 1)).run Try.prog (W.alloc (.cells #[.int .u8 (IntKind.u8.wrap (IntKind.u64.wrap ((n : Int).tmod 128 + 128)))] 5)) = .ok (.string (str [UInt8.ofNat (n % 128 + 128)])) (W.alloc (.cells #[.int .u8 (IntKind.u8.wrap (IntKind.u64.wrap ((n : Int).tmod 128 + 128)))] 5)) := fun W => by
        rw [e2]
        exact run_str (P := Try.prog) (rd_one (m := n % 128 + 128) (heap_alloc_new W _) (by omega)) Try.underlying26 Try.underlying5 Try.underlying9
      have hc2 : ∀ W : World, (convert 26 9 (.slice (some ⟨W.heap.size, 0, none⟩) 1 1)).run Try.prog (W.alloc (.cells #[.int .u8 (IntKind.u8.wrap (IntKind.u64.wrap ((n : Int).tmod 128 + 128)))] 5)).drew = .ok (.string (str [UInt8.ofNat (n % 128 + 128)])) (W.alloc (.cells #[.int .u8 (IntKind.u8.wrap (IntKind.u64.wrap ((n : Int).tmod 128 + 128)))] 5)).drew := fun W => by
        rw [e2]
        exact run_str (P := Try.prog) (rd_one (m := n % 128 + 128) (W := (W.alloc _).drew) (heap_alloc_new W _) (by omega)) Try.underlying26 Try.underlying5 Try.underlying9
      have hl := putB_length (n / 128)
      obtain ⟨x, hx⟩ : ∃ x, UInt8.ofNat (n % 128 + 128) = x := ⟨_, rfl⟩
      rw [hx] at hp
      simp only [hx] at hc1 hc2
      have hadd : (9223372036854775807 < (str [x]).size + (str (putB (n / 128))).size) = False := by rw [str_size, str_size]; simp; omega
      have hc3 := hc2 w
      replace hc1 := Lib.hid hc1
      replace hc2 := Lib.hid hc2
      have hc5 : Hid (∀ w2 : World, Below (w.alloc (.cells #[.int .u8 (IntKind.u8.wrap (IntKind.u64.wrap ((n : Int).tmod 128 + 128)))] 5)).drew.heap.size (w.alloc (.cells #[.int .u8 (IntKind.u8.wrap (IntKind.u64.wrap ((n : Int).tmod 128 + 128)))] 5)).drew w2 → (convert 26 9 (.slice (some ⟨w.heap.size, 0, none⟩) 1 1)).run Try.prog w2 = .ok (.string (str [x])) w2) := fun w2 h2 => by
        have := hx
        rw [e2] at h2
        have hr := rd_one (m := n % 128 + 128) ((h2.block w.heap.size (by simp)).trans (heap_alloc_new w _)) (by omega)
        rw [hx] at hr
        exact run_str (P := Try.prog) hr Try.underlying26 Try.underlying5 Try.underlying9
      replace hp := Lib.hid hp
      clear ih hn e2 e3 hl hx
      go_wp2_with fail
      go_region_law (first
          | (go_simp; go_at_call 42; refine (IH.out _).mono ?_; rintro e w2 ⟨rfl, hb2⟩
             first | have hc4 := hc5.out w2 hb2 | have hc4 := hc1.out w2))
      all_goals
        go_wp2_with fail
        go_ret
        refine ⟨by rw [hp.out, str_append]; rfl, ?_⟩
        first
          | exact (((Below.refl w.heap.size w).alloc (Nat.le_refl _) _).drew).trans (hb2.mono (by simp))
          | exact (((Below.refl w.heap.size w).drew).trans (hb2.mono (Nat.le_refl _))).alloc hb2.size _
end Go.Proofs.Ytmgpfckkafcllaa
