/- What KeepKeeps calls, to the walk over a heap. -/
import Derived.Test.YticplbnnmajcpaaKkCutW
import Derived.Test.YticplbnnmajcpaaHvCap
import Derived.Test.YticplbnnmajcpaaSpare
import Derived.Test.YticplbnnmajcpaaSortW
set_option linter.unusedVariables false
set_option linter.unusedSimpArgs false
namespace Go.Proofs.Yticplbnnmajcpaa
open Go Go.RowKit Hv
def intH (a : Int) : List AV := [.lit (.int .i64 a)]
theorem intH_len (a : Int) : (intH a).length = 1 := rfl
theorem intH_lit (a : Int) : intH a = (intC a).map AV.lit := rfl
theorem intC_ones (c : Int) : ∀ u ∈ intC c, u.oneCell' = true := by intro u hu; simp [intC] at hu; subst hu; rfl
theorem nid_ints (l : List Int) : NoId (.sl (l.map intH)) := by
  refine .sl _ fun it hit c hc => ?_
  obtain ⟨x, _, rfl⟩ := List.mem_map.1 hit
  rw [List.mem_singleton.1 hc]; exact .lit _
/-- A contract for what others see of the arguments. -/
theorem HCalls.seen {P : Program} {f : FuncId} {xs : List AV} {H : Hp} {n : Nat} {Post : AV → Hp → Nat → Prop} (h : HCalls P f (xs.map (AV.view H)) H n Post) : HCalls P f xs H n Post := by
  refine ⟨h.1, fun w F gb vs hok hl hr => h.2 w F gb vs hok (by rw [List.length_map]; exact hl) fun j x v hx hv => ?_⟩
  rw [List.getElem?_map, Option.map_eq_some_iff] at hx
  obtain ⟨y, hy, rfl⟩ := hx
  exact view_rep hok (hr j y v hy hv)
theorem spares_h : ACalls Try.prog 6 [] (.lit (.bool true)) :=
  acalls_lit (us := []) (by kernel_rfl) rfl fun w => spares_calls w
theorem sort_h (l : List CellD) : ACalls Try.prog 7 [.sl (l.map cellH)] (.sl ((sortD l).map cellH)) := by
  refine ⟨by kernel_rfl, fun w W gb vs hW hl hr => ?_⟩
  match vs, hl with
  | [v], _ =>
    have hv := rd_of_rep cellH_lit cellC_len (hr 0 _ v rfl rfl)
    exact (sort_calls l v w hv).mono fun e w' ⟨v', he, ho, hb⟩ => ⟨v', he, rep_of_own (base := w.heap.size) (fun b o h => hW b o h) cellH_lit cellC_len cellC_ones (by decide) ho, hb⟩
theorem cells_h (l m : List CellD) (h : l = m) : ACalls Try.prog 10 [.sl (l.map cellH), .sl (m.map cellH)] (.lit (.bool true)) := by
  refine ⟨by kernel_rfl, fun w W gb vs hW hl hr => ?_⟩
  match vs, hl with
  | [v, u], _ =>
    have hv := rd_of_rep cellH_lit cellC_len (hr 0 _ v rfl rfl)
    have hu := rd_of_rep cellH_lit cellC_len (hr 1 _ u rfl rfl)
    exact (Cells_calls l m v u w hv hu).mono fun e w' ⟨he, hb⟩ => ⟨_, he, by subst h; rw [sameC_iff.2 rfl]; exact .lit _, hb⟩
theorem keep_h {H : Hp} {n : Nat} (l : List CellD) (looks : List Int) (hr : rightL l = true) (hl : l.length ≤ 100000) (hz : looks.length ≤ 100000) :
    HCalls Try.prog 8 [.sl (l.map cellH), .sl (looks.map intH), .lit (.bool true)] H n fun r H' n' => ∃ L : List (List AV), (∀ it ∈ L, it.length = 4) ∧ L.length ≤ 100000 ∧ r = .tup [.rw n 4 0 L.length, .lit (.int .i64 0)] ∧ H' = upd H n (some (.row true 35 L)) ∧ n' = n + 1 := by
  have hk : keepR l looks true = (keepL l looks true, 0) := by unfold keepR; rw [if_pos hr]
  refine (hcalls_own2 (P := Try.prog) (f := 8) (xs := [.sl (l.map cellH), .sl (looks.map intH), .lit (.bool true)]) (H := H) (n := n) (enc := cellC) (l := keepL l looks true) (sz := 4) (e := 35) (u := .int .i64 0) (by kernel_rfl) cellC_len cellC_ones (by kernel_rfl) fun w F gb vs hok hvl hrep => ?_).mono fun r H' n' ⟨h1, h2, h3⟩ => ⟨(keepL l looks true).map fun x => (cellC x).map .lit, fun it hit => by obtain ⟨x, _, rfl⟩ := List.mem_map.1 hit; rfl, by rw [List.length_map]; exact Nat.le_trans (keep_sub l looks true).length_le hl, by rw [List.length_map]; exact h1, h2, h3⟩
  match vs, hvl with
  | [v, vz, vb], _ =>
    have hv := rd_of_rep cellH_lit cellC_len (hrep 0 _ v rfl rfl)
    have hvz := rd_of_rep intH_lit intC_len (hrep 1 _ vz rfl rfl)
    obtain rfl := rep_lit (hrep 2 _ vb rfl rfl)
    have := Keep_calls l looks true v vz w hv hvz hl hz
    rw [hk] at this
    exact this.mono fun e w' ⟨v', h1, h2, h3⟩ => ⟨v', h1, h2, h3⟩
end Go.Proofs.Yticplbnnmajcpaa
