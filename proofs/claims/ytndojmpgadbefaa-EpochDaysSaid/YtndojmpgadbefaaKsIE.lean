/- slices.Sorted of the keys of a map, for the walk over a heap (printed by gensortk.py). -/
import Derived.Test.YtndojmpgadbefaaHvTab
import Derived.Test.YtndojmpgadbefaaHvNew
import Derived.Test.YtndojmpgadbefaaKsP
import Derived.Shelf.SlIterI.Nil
import Derived.Ground.GgzProg
import Derived.Shelf.SortM.Plain
import Derived.Shelf.SortM.SortNone
import Derived.Ground.SlgmProg
import Derived.Shelf.Lay
set_option linter.unusedVariables false
set_option linter.unusedSimpArgs false
namespace Go.Proofs.Ytndojmpgadbefaa
open Go Go.RowKit Go.Shelf Go.Maps Hv
open Go.WideElems (Fit rd rg rg_of)
open Go.WideShapes (sorted_perm)
shelf_lay_g SlLaysZI.n7 Ggz 7 at Try 42 as Try.keysLIE
shelf_lay_g SlLaysZI.n6 Ggz 6 at Try 41 as Try.sortedLIE
shelf_lay_g SlLaysM.n5 Slgm 5 at Try 54 as Try.sortLIE
theorem keysOfIE_h {H : Hp} {n mid : Nat} : HCalls Try.prog 42 [.mp mid] H n fun r H' n' => r = .fn 55 [.ptr n 0] ∧ H' = upd H n (some (.cells [.mp mid])) ∧ n' = n + 1 := by
  refine ⟨by kernel_rfl, fun w F gb vs hok hlen hrep => ?_⟩
  match vs, hlen with
  | [v0], _ =>
    have r0 := hrep 0 _ v0 rfl rfl
    cases r0 with
    | mp _ g size hg =>
      have cK := AnyZI.keys_in Try.keysLIE Fence.wide 5 trivial rfl (some g) w
      refine ((callsIn_wide (n := 5)).1 cK).mono fun e w' ⟨he, hw⟩ => ?_
      subst he hw
      obtain ⟨b1, b2, b3⟩ := alloc_below w (.cells #[.map (some g)] 79)
      refine done_newAt (oo := .cells [.mp mid]) (gg := w.heap.size) (size := 1) hok b1 (Nat.le_refl _) b2 ⟨#[.map (some g)], _, (0, 0), b3, rfl, rfl, ⟨rfl, fun u hu => ?_, fun j c u hj hu => ?_⟩⟩ ⟨rfl, rfl, rfl⟩ ?_
      · simp only [List.mem_singleton] at hu; subst hu; rfl
      · cases j with
        | zero =>
          simp only [List.getElem?_cons_zero, Option.some.injEq] at hj hu
          subst hj hu
          exact .mp _ g size (gbn_ext hok _ _ _ hg)
        | succ j => simp at hj
      · refine .fn _ [.ptr n 0] [.pointer (some ⟨w.heap.size, 0, none⟩)] rfl fun j c u hj hu => ?_
        cases j with
        | zero =>
          simp only [List.getElem?_cons_zero, Option.some.injEq] at hj hu
          subst hj hu
          exact .ptr _ 0 _ 1 (gbn_at _ _ _)
        | succ j => simp at hj
theorem szOf_intIE : szOf Try.prog 3 = 1 := by unfold szOf; kernel_rfl
theorem sortsKIE (m : Nat) : AnyZI.SortsIn Try.prog Try.sortedLIE_ren Fence.wide m :=
  ⟨fun blk off cap ss W hH hblk hsz => callsIn_wide.2 (AnyM.slices_Sort_int Try.sortLIE blk off cap ss W hH hblk hsz),
   fun p cap W => callsIn_wide.2 (AnyM.slices_Sort_int_none Try.sortLIE p cap W)⟩
theorem keyOf_mkIE {n : Int} (hs : -9223372036854775808 ≤ n ∧ n ≤ 9223372036854775807) : keyOf Try.prog 3 (.int .i64 n) = some (.int .i64 n) := by
  have : (Lit.int .i64 n).wf = true := wf_i64 hs
  simp [keyOf, Try.underlying3, mapKey, this]
set_option maxHeartbeats 2000000 in
theorem sortedKeysIE_h {ν : Type} {vA : ν → AV} {H : Hp} {n mid bx clock : Nat} {es : List (Ent Int ν)} (hm : H mid = some (.map (es.map (Ent.me intA vA)) clock)) (hbx : H bx = some (.cells [.mp mid])) (hok0 : MapOk es clock) (hs : ∀ e ∈ es, -9223372036854775808 ≤ e.key ∧ e.key ≤ 9223372036854775807) (hl : es.length ≤ 1000000) :
    HCalls Try.prog 41 [.fn 55 [.ptr bx 0]] H n fun r H' n' => (r = .lit (.slice none 0 0) ∧ es = [] ∧ H' = H ∧ n' = n) ∨
      (r = .rw n 1 0 es.length ∧ H' = upd H n (some (.row true 3 ((sortI (es.map (·.key))).map intI))) ∧ n' = n + 1) := by
  refine ⟨by kernel_rfl, fun w F gb vs hok hlen hrep => ?_⟩
  match vs, hlen with
  | [v0], _ =>
    have r0 := hrep 0 _ v0 rfl rfl
    cases r0 with
    | fn _ _ us hul hu =>
      match us, hul with
      | [u0], _ =>
        have q0 := hu 0 _ u0 rfl rfl
        cases q0 with
        | ptr _ _ B size hB =>
          rcases hok.live bx _ hbx with ⟨B', size', hB', cur, e0, fr, hcb, hcold, hcs, hcl⟩ | ⟨_, m, e, he⟩
          · rw [hB] at hB'
            injection hB' with hB'
            injection hB' with e1 e2
            subst e1 e2
            obtain ⟨u, hcu⟩ : ∃ u, cur.toList = [u] := by
              have := hcl.len
              match h : cur.toList, this with
              | [u], _ => exact ⟨u, rfl⟩
            have qm := hcl.rep 0 (.mp mid) u rfl (by rw [hcu]; rfl)
            cases qm with
            | mp _ g gs hg =>
              rcases hok.live mid _ hm with ⟨g', gs', hg', ents, hmb, hel, hent⟩ | ⟨_, m, e, he⟩
              · rw [hg] at hg'
                injection hg' with hg'
                injection hg' with e1 e2
                subst e1 e2
                rw [List.length_map] at hel
                have hBlt : B < w.heap.size := (hok.lt bx B size hB).2
                have hcell : w.cell? ⟨B, 0, none⟩ = some (.map (some g)) := by
                  refine cell_of hcb ?_
                  rw [hcu]; rfl
                have hat : ∀ (j : Nat) (x : MapEntry), ents[j]? = some x → ∃ e ∈ es, es[j]? = some e ∧ x.key = .int .i64 e.key ∧ x.born = e.born := fun j x hx => by
                  have hj : j < es.length := by rw [hel]; exact (Array.getElem?_eq_some_iff.1 hx).1
                  obtain ⟨q1, q2, q3⟩ := hent j (Ent.me intA vA es[j]) x (by rw [List.getElem?_map, List.getElem?_eq_getElem hj]; rfl) hx
                  exact ⟨es[j], List.getElem_mem hj, List.getElem?_eq_getElem hj, rep_lit q2, q1⟩
                have hkeys : ents.toList.map (·.key) = es.map fun e => Value.int .i64 e.key := by
                  refine List.ext_getElem? fun j => ?_
                  rw [List.getElem?_map, List.getElem?_map]
                  by_cases hj : j < es.length
                  · obtain ⟨e, _, h1, h2, _⟩ := hat j ents[j] (Array.getElem?_eq_getElem (by omega))
                    rw [h1, Array.getElem?_toList, Array.getElem?_eq_getElem (by omega), Option.map_some, Option.map_some, h2]
                  · rw [List.getElem?_eq_none (by rw [Array.length_toList]; omega), List.getElem?_eq_none (by omega)]; rfl
                have hborns : ents.toList.map (·.born) = es.map (·.born) := by
                  refine List.ext_getElem? fun j => ?_
                  rw [List.getElem?_map, List.getElem?_map]
                  by_cases hj : j < es.length
                  · obtain ⟨e, _, h1, _, h2⟩ := hat j ents[j] (Array.getElem?_eq_getElem (by omega))
                    rw [h1, Array.getElem?_toList, Array.getElem?_eq_getElem (by omega), Option.map_some, Option.map_some, h2]
                  · rw [List.getElem?_eq_none (by rw [Array.length_toList]; omega), List.getElem?_eq_none (by omega)]; rfl
                have hreads : ∀ x ∈ ents.toList, ∃ e ∈ es, rd Try.prog 3 anyR x = some (.int .i64 e.key, .nil) ∧ x.key = .int .i64 e.key := fun x hx => by
                  obtain ⟨j, hj, rfl⟩ := List.mem_iff_getElem.1 hx
                  rw [Array.length_toList] at hj
                  obtain ⟨e, he, _, h2, _⟩ := hat j ents[j] (Array.getElem?_eq_getElem hj)
                  refine ⟨e, he, ?_, h2⟩
                  unfold rd
                  show (keyOf Try.prog 3 ents[j].key).bind _ = _
                  rw [h2, keyOf_mkIE (hs e he)]; rfl
                have hfit : Fit Try.prog 3 anyR ents clock := by
                  refine ⟨by simp only [maxLen]; omega, ⟨fun x hx => ?_, by rw [hborns]; exact hok0.borns, ?_⟩, fun x hx => ?_⟩
                  · obtain ⟨j, hj, rfl⟩ := List.mem_iff_getElem.1 hx
                    rw [Array.length_toList] at hj
                    obtain ⟨e, he, _, _, h2⟩ := hat j ents[j] (Array.getElem?_eq_getElem hj)
                    show ents[j].born < clock
                    rw [h2]; exact hok0.lt e he
                  · rw [hkeys]
                    have : es.map (fun e => Value.int .i64 e.key) = (es.map (·.key)).map (Value.int .i64) := by rw [List.map_map]; rfl
                    rw [this]
                    exact List.pairwise_map.2 (hok0.keys.imp fun hne h => hne (by injection h))
                  · obtain ⟨e, _, h1, _⟩ := hreads x hx
                    exact ⟨_, h1⟩
                have hown : w.ownsMap Try.prog 3 anyR g ents.size (.map ((ents.toList.map (rg Try.prog 3 anyR)).foldr DataW.insert [])) := ⟨ents, clock, hmb, hfit, Nat.le_refl _, rfl⟩
                have hsk : (intKeys (DataW.map ((ents.toList.map (rg Try.prog 3 anyR)).foldr DataW.insert []))).Perm (es.map fun e => e.key) := by
                  refine ((sorted_perm _).map _).trans ?_
                  have : (ents.toList.map (rg Try.prog 3 anyR)).map (fun p => _root_.Go.intOf p.1) = es.map fun e => e.key := by
                    refine List.ext_getElem? fun j => ?_
                    rw [List.map_map, List.getElem?_map, List.getElem?_map]
                    by_cases hj : j < es.length
                    · obtain ⟨e, he, h1, h2, _⟩ := hat j ents[j] (Array.getElem?_eq_getElem (by omega))
                      rw [h1, Array.getElem?_toList, Array.getElem?_eq_getElem (by omega), Option.map_some, Option.map_some]
                      have h3 : rd Try.prog 3 anyR ents[j] = some (.int .i64 e.key, .nil) := by
                        unfold rd
                        rw [h2, keyOf_mkIE (hs e he)]; rfl
                      simp only [Function.comp, rg_of h3]; rfl
                    · rw [List.getElem?_eq_none (by rw [Array.length_toList]; omega), List.getElem?_eq_none (by omega)]; rfl
                  rw [this]
                have hsz : Maps.size (DataW.map ((ents.toList.map (rg Try.prog 3 anyR)).foldr DataW.insert [])) = es.length := by
                  rw [Maps.size_eq, (sorted_perm _).length_eq, List.length_map, Array.length_toList, hel]
                have hseq := AnyZI.keys_gives (ρ := Try.keysLIE_ren) { Try.keysLIE with } Fence.wide 2 trivial rfl (by omega) B g ents.size _ w hBlt hcell hown
                have cS := AnyZI.sorted_in Try.sortedLIE Fence.wide 5 trivial trivial trivial trivial rfl (by omega) (sortsKIE _) (enters_of Try.func54 (by kernel_rfl) rfl) 55 #[.pointer (some ⟨B, 0, none⟩)] trivial (enters_of Try.func55 (by kernel_rfl) rfl) _ _ (by rw [hsz]; simp only [maxLen]; omega) (by rw [hsz]; omega) w hseq
                refine ((callsIn_wide (n := 5)).1 cS).mono fun e w' ⟨v, ss, he, hS, hrow, hnil, hb⟩ => ?_
                subst he
                have hpp := hS.trans hsk
                have hln : ss.length = es.length := by rw [hpp.length_eq, List.length_map]
                rw [mergeSort_of_perm_i hpp] at hrow
                rw [← sortI_enc, hln] at hrow
                have hl2 : (sortI (es.map (·.key))).length = es.length := by rw [sortI_len, List.length_map]
                rw [← hl2] at hrow ⊢
                exact done_ownsRow (enc := intCC) (m := true) hok hb (fun _ => rfl) (fun x u hu => by simp only [intCC, List.mem_singleton] at hu; subst hu; rfl) szOf_intIE (by rw [hl2]; simp only [maxLen]; omega) hrow (fun h h2 => .inl ⟨rfl, by
                  have := congrArg List.length h2
                  rw [hl2] at this
                  exact List.eq_nil_of_length_eq_zero this, rfl, rfl⟩) (.inr ⟨rfl, rfl, rfl⟩)
              · cases he
          · cases he
end Go.Proofs.Ytndojmpgadbefaa
