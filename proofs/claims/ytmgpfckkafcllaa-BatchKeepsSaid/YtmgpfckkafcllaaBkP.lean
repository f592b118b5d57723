/- What BatchKeeps calls, to the walk over a heap. -/
import Derived.Test.YtmgpfckkafcllaaBcCells
import Derived.Test.YtmgpfckkafcllaaBtLastM
import Derived.Test.YtmgpfckkafcllaaHvOwn
import Derived.Test.YtmgpfckkafcllaaHvCap
import Derived.Test.YtmgpfckkafcllaaEncode
import Derived.Test.YtmgpfckkafcllaaDecode
import Derived.Test.YtmgpfckkafcllaaLaw
set_option linter.unusedVariables false
set_option linter.unusedSimpArgs false
namespace Go.Proofs.Ytmgpfckkafcllaa
open Go Go.RowKit Hv
theorem HCalls.seen {P : Program} {f : FuncId} {xs : List AV} {H : Hp} {n : Nat} {Post : AV → Hp → Nat → Prop} (h : HCalls P f (xs.map (AV.view H)) H n Post) : HCalls P f xs H n Post := by
  refine ⟨h.1, fun w F gb vs hok hl hr => h.2 w F gb vs hok (by rw [List.length_map]; exact hl) fun j x v hx hv => ?_⟩
  rw [List.getElem?_map, Option.map_eq_some_iff] at hx
  obtain ⟨y, hy, rfl⟩ := hx
  exact view_rep hok (hr j y v hy hv)
theorem noId_ops (l : List OpD) : NoId (.sl (l.map opI)) := by simp [noId_sl, opI, noId_lit]
theorem opC_ones (o : OpD) : ∀ u ∈ opC o, u.oneCell' = true := by intro u hu; simp only [opC, List.mem_cons, List.not_mem_nil, or_false] at hu; rcases hu with rfl | rfl | rfl <;> rfl
theorem byteA_lit (b : UInt8) : byteA b = (byC b).map AV.lit := rfl
theorem byC_ones (b : UInt8) : ∀ u ∈ byC b, u.oneCell' = true := by intro u hu; rw [List.mem_singleton.1 hu]; rfl
theorem encode_h (seq : Int) (ops : List OpD) : ACalls Try.prog 10 [.lit (.int .i64 seq), .sl (ops.map opI)] (.tup [.sl ((encR seq ops).map byteA), .lit (.int .i64 (checkB seq ops))]) := by
  refine ⟨by kernel_rfl, fun w W gb vs hW hl hr => ?_⟩
  match vs, hl with
  | [u, v], _ =>
    obtain rfl := rep_lit (hr 0 _ u rfl rfl)
    have hv := rd_of_rep opI_lit opC_len (hr 1 _ v rfl rfl)
    refine (Encode_calls seq ops v w hv).mono fun e w' ⟨v', he, ho, hb⟩ => ⟨_, he, ?_, hb⟩
    have hq : Rep w' W gb (.sl ((encR seq ops).map byteA)) v' := rep_of_own (base := w.heap.size) (f := byC) (fun b o h => hW b o h) byteA_lit byC_len byC_ones (by decide) (by rw [bc_flat]; exact ho)
    refine Rep.tup [.sl ((encR seq ops).map byteA), .lit (.int .i64 (checkB seq ops))] [v', .int .i64 (checkB seq ops)] rfl fun j c y hc hy => ?_
    match j with
    | 0 => simp only [List.getElem?_cons_zero, Option.some.injEq] at hc hy; subst hc hy; exact hq
    | 1 => simp only [List.getElem?_cons_succ, List.getElem?_cons_zero, Option.some.injEq] at hc hy; subst hc hy; exact .lit _
    | j + 2 => simp at hc
theorem bytes_its {H : Hp} {g : Nat} {m : Bool} {e : TypeId} {l : List UInt8} (hg : H g = some (.row m e (l.map byteA))) : (AV.rw g 1 0 l.length).its? H = some (l.map byteA) := by
  have h1 : fits (l.map byteA) 1 0 l.length = true := by
    unfold fits
    rw [List.length_map]
    simp
  have h2 : piece (l.map byteA) 0 l.length = l.map byteA := by
    exact List.take_of_length_le (by simp)
  simp only [AV.its?, hg, h1, h2, cond_true]
/-- Decode of bytes that may be written in; the changes are a row of their own. -/
theorem decode_h {H : Hp} {n g : Nat} {m : Bool} {e : TypeId} (l : List UInt8) (hg : H g = some (.row m e (l.map byteA))) :
    HCalls Try.prog 14 [.rw g 1 0 l.length] H n fun r H' n' => r = .tup [.lit (.int .i64 (decB l).1), .rw n 3 0 (decB l).2.1.length, .lit (.int .i64 (decB l).2.2)] ∧ H' = upd H n (some (.row false 24 ((decB l).2.1.map opI))) ∧ n' = n + 1 := by
  refine (hcalls_own3 (P := Try.prog) (f := 14) (xs := [.rw g 1 0 l.length]) (H := H) (n := n) (enc := opC) (l := (decB l).2.1) (sz := 3) (e := 24) (a := .int .i64 (decB l).1) (u := .int .i64 (decB l).2.2) false (by kernel_rfl) opC_len opC_ones (by kernel_rfl) fun w F gb vs hok hvl hrep => ?_).mono fun r H' n' h => h
  match vs, hvl with
  | [v], _ =>
    have hv := rd_of_reads byteA_lit byC_len (rep_its hok (hrep 0 _ v rfl rfl) (bytes_its hg))
    have hv' : RdB w v l := by unfold RdB; unfold RdT at hv; rwa [bc_flat] at hv
    exact Decode_calls l v w hv'
end Go.Proofs.Ytmgpfckkafcllaa
