/- EditKeeps returns true for every input. -/
import Derived.Test.YtheanmfdfoefoaaRows
import Derived.Test.YtheanmfdfoefoaaEkLaw
import Derived.Test.YtheanmfdfoefoaaEkRowE
import Derived.Test.YtheanmfdfoefoaaEdElems
import Derived.OpenShut
import Derived.ShutString
import Derived.ChangeOld
namespace Go.Proofs.Ytheanmfdfoefoaa.lawEditKeeps
open Go Go.ChangeShapes Go.WideShapes Go.ChangeAt Go.RowKit Go.Joins Hv
open Go.ChangeMaps (open_string shut_string)
set_option linter.unusedVariables false

theorem own : ownKnob Try.prog.godebug = none := by kernel_rfl
theorem laidOut : laidOutB Try.prog = true := by kernel_rfl

set_option maxRecDepth 100000 in
theorem lifted (os : Os) (started : os.Started) (H : Type) (enc : TypeId × Value → H) :
    ReturnsInHanded {} Try.checked os 10 .any (Rows.editKeepsSpec.pre6 enc Try.prog Try.f10 Rows.editKeepsRow.domain false) (Rows.editKeepsSpec.post enc Try.prog Try.f10 false true false false) := by
  refine returnsInHanded_of_change (C := Try.checked) own started (by kernel_rfl) Try.func10
    (ChangeSpec.witness6 (enc := enc) (C := Try.checked) false ⟨#[], #[.slice none 0 0, .agg #[.int .i64 0, .int .i64 0, .int .i64 0, .slice none 0 0, .slice none 0 0]], []⟩ 8 (by kernel_rfl) (by kernel_rfl) (by kernel_rfl) (by kernel_rfl)) ?_
  intro W base args ds gs before hval0 hW hcnd _
  have hval : ∀ (j : Nat) t v, Try.f10.params[j]? = some t → args[j]? = some v → Value.okWide Try.prog W .any base t v := hval0
  have hW' := hW
  obtain ⟨p, q, hA0, hV, rfl, hfz, hnd⟩ := hW
  have hA : DataW.TrodAll enc Try.prog W 0 (fun _ => true) true Try.f10.params.toList args.toList ds p := hA0
  rw [Try.params10] at hA hval
  obtain ⟨v0, vs0, d0, ds0, p0, q0, hargs, rfl, rfl, h0, r0⟩ := trodAll_cons hA
  obtain ⟨v1, vs1, d1, ds1, p1, q1, rfl, rfl, rfl, h1, r1⟩ := trodAll_cons r0
  obtain ⟨rfl, rfl, rfl⟩ := trodAll_nil r1
  obtain rfl : args = #[v0, v1] := by cases args; simp_all
  obtain ⟨rfl, rfl⟩ := trodVars_none hV
  have lt0 : ∀ x ∈ p0, x.block < W.heap.size := by obtain ⟨m, hm⟩ := h0; exact DataW.trod_lt m _ _ _ hm
  have k0 := h0
  have lt1 : ∀ x ∈ p1, x.block < W.heap.size := by obtain ⟨m, hm⟩ := h1; exact DataW.trod_lt m _ _ _ hm
  have k1 := h1
  obtain ⟨a0, len0, cap0, rfl⟩ := okWide_slice Try.underlying22 (hval 0 22 v0 rfl rfl)
  obtain ⟨l0, hl0⟩ := (by obtain ⟨fuel, hf⟩ := h0; exact open_adds hf : ∃ l, RdT W 5 addC (.slice a0 len0 cap0) l)
  obtain ⟨u1_0, u1_1, u1_2, u1_3, u1_4, y1_0, y1_1, y1_2, y1_3, y1_4, n, rfl, _, _, t1_0, t1_1, t1_2, t1_3, t1_4⟩ := open_agg5 Try.underlying62 (by kernel_rfl) (by kernel_rfl) (hval 1 62 v1 rfl rfl) h1
  obtain ⟨a1_0, e1_0, _, _⟩ := DataW.trod_int Try.underlying3 t1_0
  simp only [List.cons.injEq, and_true] at e1_0
  subst e1_0
  obtain ⟨a1_1, e1_1, _, _⟩ := DataW.trod_int Try.underlying3 t1_1
  simp only [List.cons.injEq, and_true] at e1_1
  subst e1_1
  obtain ⟨a1_2, e1_2, _, _⟩ := DataW.trod_int Try.underlying3 t1_2
  simp only [List.cons.injEq, and_true] at e1_2
  subst e1_2
  obtain ⟨l1_3, hl1_3⟩ := open_pls t1_3
  obtain ⟨l1_4, hl1_4⟩ := open_adds t1_4
  clear hA0 hval0
  refine (acalls_run (vs := [_, _]) (EditKeeps_h l0 ⟨a1_0, a1_1, a1_2, l1_3, l1_4⟩) rfl (reps_cons (rep_adds (fun _ _ h => h) hl0) (reps_cons (Rep.agg _ [.int .i64 a1_0, .int .i64 a1_1, .int .i64 a1_2, u1_3, u1_4] rfl (List.forall_mem_cons.2 ⟨rfl, (List.forall_mem_cons.2 ⟨rfl, (List.forall_mem_cons.2 ⟨rfl, (List.forall_mem_cons.2 ⟨(RdT.one hl1_3), (List.forall_mem_cons.2 ⟨(RdT.one hl1_4), (fun _ h => absurd h List.not_mem_nil)⟩)⟩)⟩)⟩)⟩) (reps_cons (.lit _) (reps_cons (.lit _) (reps_cons (.lit _) (reps_cons (rep_pls (fun _ _ h => h) hl1_3) (reps_cons (rep_adds (fun _ _ h => h) hl1_4) reps_nil)))))) reps_nil))).mono fun e W' ⟨he, bel⟩ => ?_
  subst he
  exact ⟨_, rfl, _, _, _, [], _, [], hW', trodAll_mk1 (shut_bool Try.underlying4 _), (trodAll_cons_mk (Below.trod laidOut (by kernel_rfl) (of_decide_eq_true (by kernel_rfl)) k0 bel lt0) (trodAll_cons_mk (Below.trod laidOut (by kernel_rfl) (of_decide_eq_true (by kernel_rfl)) k1 bel lt1) trodAll_mk0)), rfl, bel.frame _, fun h => by cases h⟩

theorem over : Rows.editKeepsRow.holds Try.pinned (OpenSpec.ofChange Rows.editKeepsSpec) :=
  OpenClaim.holds_of_wide 10 Try.f10 rfl rfl rfl rfl rfl rfl rfl ⟨rfl, rfl, rfl, rfl, rfl⟩ rfl rfl rfl rfl rfl (by kernel_rfl) Try.func10 (by kernel_rfl)
    (of_decide_eq_true (by kernel_rfl)) (by unfold Func.isWrapper; first | (rw [if_pos (by decide +kernel)]; kernel_rfl) | (rw [if_neg (by decide +kernel)]; exact ⟨rfl, rfl⟩))
    (fun os started H enc _ => lifted os started H enc)

theorem proved : Rows.EditKeepsSaid := over
#print axioms proved
end Go.Proofs.Ytheanmfdfoefoaa.lawEditKeeps
