/- Chapter 9: slices.Sorted of the keys of a map of changes, for the walk over a heap. -/
import Derived.Test.YtmgpfckkafcllaaHvTab
import Derived.Test.YtmgpfckkafcllaaHvNew
import Derived.Test.YtmgpfckkafcllaaLastP
import Derived.Shelf.SlIter.Nil
import Derived.Ground.GgzProg
import Derived.Shelf.SortM.Plain
import Derived.Shelf.SortM.SortNone
import Derived.Ground.SlgmProg
import Derived.Shelf.Lay
set_option linter.unusedVariables false
set_option linter.unusedSimpArgs false
namespace Go.Proofs.Ytmgpfckkafcllaa
open Go Go.RowKit Go.Shelf Go.Maps Hv
open Go.WideElems (Fit rd rg rg_of)
open Go.WideShapes (sorted_perm)
shelf_lay_g SlLaysZ.n7 Ggz 7 at Try 40 as Try.keysL
shelf_lay_g SlLaysZ.n6 Ggz 6 at Try 39 as Try.sortedL
shelf_lay_g SlLaysM.n6 Slgm 6 at Try 52 as Try.sortL
theorem keysOf_h {H : Hp} {n mid : Nat} : HCalls Try.prog 40 [.mp mid] H n fun r H' n' => r = .fn 53 [.ptr n 0] ∧ H' = upd H n (some (.cells [.mp mid])) ∧ n' = n + 1 := by
  refine ⟨by kernel_rfl, fun w F gb vs hok hlen hrep => ?_⟩
  match vs, hlen with
  | [v0], _ =>
    have r0 := hrep 0 _ v0 rfl rfl
    cases r0 with
    | mp _ g size hg =>
      have cK := AnyZ.keys_in Try.keysL Fence.wide 5 trivial rfl (some g) w
      refine ((callsIn_wide (n := 5)).1 cK).mono fun e w' ⟨he, hw⟩ => ?_
      subst he hw
      obtain ⟨b1, b2, b3⟩ := alloc_below w (.cells #[.map (some g)] 72)
      refine done_newAt (oo := .cells [.mp mid]) (gg := w.heap.size) (size := 1) hok b1 (Nat.le_refl _) b2 ⟨#[.map (some g)], _, (0, 0), b3, rfl, rfl, ⟨rfl, fun u hu => ?_, fun j c u hj hu => ?_⟩⟩ ⟨rfl, rfl, rfl⟩ ?_
      · simp only [List.mem_singleton] at hu; subst hu; rfl
      · cases j with
        | zero =>
          simp only [List.getElem?_cons_zero, Option.some.injEq] at hj hu
          subst hj hu
          exact .mp _ g size (gbn_ext hok _ _ _ hg)
        | succ j => simp at hj
      · refine .fn _ [.ptr n 0] [.pointer (some ⟨w.heap.size, 0, none⟩)] rfl fun j c u hj hu => ?_
        cases j with
        | zero =>
          simp only [List.getElem?_cons_zero, Option.some.injEq] at hj hu
          subst hj hu
          exact .ptr _ 0 _ 1 (gbn_at _ _ _)
        | succ j => simp at hj
def strA (s : ByteArray) : AV := .lit (.string s)
def strC (s : ByteArray) : List Value := [.string s]
def strI (s : ByteArray) : List AV := [.lit (.string s)]
theorem keyOk_strA : KeyOk strA := keyOk_str
theorem szOf_str : szOf Try.prog 9 = 1 := by unfold szOf; kernel_rfl
def anyR : Value → Option (DataW Unit × List MemPlace) := fun _ => some (.nil, [])
theorem sortsK (m : Nat) : AnyZ.SortsIn Try.prog Try.sortedL_ren Fence.wide m :=
  ⟨fun blk off cap ss W hH hblk hsz => callsIn_wide.2 (AnyM.slices_Sort_string Try.sortL blk off cap ss W hH hblk hsz),
   fun p cap W => callsIn_wide.2 (AnyM.slices_Sort_string_none Try.sortL p cap W)⟩
theorem keyOf_mk {s : ByteArray} (hs : s.size ≤ maxLen) : keyOf Try.prog 9 (.string s) = some (.string s.data.toList) := by
  simp [keyOf, Try.underlying9, mapKey, hs]
theorem sortK_enc (l : List ByteArray) : (sortK l).flatMap strC = ((l.map fun s => s.data.toList).mergeSort fun x y => decide (x ≤ y)).map encStr := by
  unfold sortK
  rw [List.flatMap_map]
  induction ((l.map fun s => s.data.toList).mergeSort fun x y => decide (x ≤ y)) with
  | nil => rfl
  | cons a l ih => rw [List.flatMap_cons, ih]; rfl
set_option maxHeartbeats 2000000 in
theorem sortedKeys_h {ν : Type} {vA : ν → AV} {H : Hp} {n mid bx clock : Nat} {es : List (Ent ByteArray ν)} (hm : H mid = some (.map (es.map (Ent.me strA vA)) clock)) (hbx : H bx = some (.cells [.mp mid])) (hok0 : MapOk es clock) (hs : ∀ e ∈ es, e.key.size ≤ 140737488355328) (hl : es.length * 40 ≤ 140737488355328) :
    HCalls Try.prog 39 [.fn 53 [.ptr bx 0]] H n fun r H' n' => (r = .lit (.slice none 0 0) ∧ es = [] ∧ H' = H ∧ n' = n) ∨
      (r = .rw n 1 0 es.length ∧ H' = upd H n (some (.row true 9 ((sortK (es.map (·.key))).map strI))) ∧ n' = n + 1) := by
  refine ⟨by kernel_rfl, fun w F gb vs hok hlen hrep => ?_⟩
  match vs, hlen with
  | [v0], _ =>
    have r0 := hrep 0 _ v0 rfl rfl
    cases r0 with
    | fn _ _ us hul hu =>
      match us, hul with
      | [u0], _ =>
        have q0 := hu 0 _ u0 rfl rfl
        cases q0 with
        | ptr _ _ B size hB =>
          rcases hok.live bx _ hbx with ⟨B', size', hB', cur, e0, fr, hcb, hcold, hcs, hcl⟩ | ⟨_, m, e, he⟩
          · rw [hB] at hB'
            injection hB' with hB'
            injection hB' with e1 e2
            subst e1 e2
            obtain ⟨u, hcu⟩ : ∃ u, cur.toList = [u] := by
              have := hcl.len
              match h : cur.toList, this with
              | [u], _ => exact ⟨u, rfl⟩
            have qm := hcl.rep 0 (.mp mid) u rfl (by rw [hcu]; rfl)
            cases qm with
            | mp _ g gs hg =>
              rcases hok.live mid _ hm with ⟨g', gs', hg', ents, hmb, hel, hent⟩ | ⟨_, m, e, he⟩
              · rw [hg] at hg'
                injection hg' with hg'
                injection hg' with e1 e2
                subst e1 e2
                rw [List.length_map] at hel
                have hBlt : B < w.heap.size := (hok.lt bx B size hB).2
                have hcell : w.cell? ⟨B, 0, none⟩ = some (.map (some g)) := by
                  refine cell_of hcb ?_
                  rw [hcu]; rfl
                have hat : ∀ (j : Nat) (x : MapEntry), ents[j]? = some x → ∃ e ∈ es, es[j]? = some e ∧ x.key = .string e.key ∧ x.born = e.born := fun j x hx => by
                  have hj : j < es.length := by rw [hel]; exact (Array.getElem?_eq_some_iff.1 hx).1
                  obtain ⟨q1, q2, q3⟩ := hent j (Ent.me strA vA es[j]) x (by rw [List.getElem?_map, List.getElem?_eq_getElem hj]; rfl) hx
                  exact ⟨es[j], List.getElem_mem hj, List.getElem?_eq_getElem hj, rep_lit q2, q1⟩
                have hkeys : ents.toList.map (·.key) = es.map fun e => Value.string e.key := by
                  refine List.ext_getElem? fun j => ?_
                  rw [List.getElem?_map, List.getElem?_map]
                  by_cases hj : j < es.length
                  · obtain ⟨e, _, h1, h2, _⟩ := hat j ents[j] (Array.getElem?_eq_getElem (by omega))
                    rw [h1, Array.getElem?_toList, Array.getElem?_eq_getElem (by omega), Option.map_some, Option.map_some, h2]
                  · rw [List.getElem?_eq_none (by rw [Array.length_toList]; omega), List.getElem?_eq_none (by omega)]; rfl
                have hborns : ents.toList.map (·.born) = es.map (·.born) := by
                  refine List.ext_getElem? fun j => ?_
                  rw [List.getElem?_map, List.getElem?_map]
                  by_cases hj : j < es.length
                  · obtain ⟨e, _, h1, _, h2⟩ := hat j ents[j] (Array.getElem?_eq_getElem (by omega))
                    rw [h1, Array.getElem?_toList, Array.getElem?_eq_getElem (by omega), Option.map_some, Option.map_some, h2]
                  · rw [List.getElem?_eq_none (by rw [Array.length_toList]; omega), List.getElem?_eq_none (by omega)]; rfl
                have hreads : ∀ x ∈ ents.toList, ∃ e ∈ es, rd Try.prog 9 anyR x = some (.string e.key.data.toList, .nil) ∧ x.key = .string e.key := fun x hx => by
                  obtain ⟨j, hj, rfl⟩ := List.mem_iff_getElem.1 hx
                  rw [Array.length_toList] at hj
                  obtain ⟨e, he, _, h2, _⟩ := hat j ents[j] (Array.getElem?_eq_getElem hj)
                  refine ⟨e, he, ?_, h2⟩
                  unfold rd
                  show (keyOf Try.prog 9 ents[j].key).bind _ = _
                  rw [h2, keyOf_mk (by have := hs e he; simp only [maxLen]; omega)]; rfl
                have hfit : Fit Try.prog 9 anyR ents clock := by
                  refine ⟨by simp only [maxLen]; omega, ⟨fun x hx => ?_, by rw [hborns]; exact hok0.borns, ?_⟩, fun x hx => ?_⟩
                  · obtain ⟨j, hj, rfl⟩ := List.mem_iff_getElem.1 hx
                    rw [Array.length_toList] at hj
                    obtain ⟨e, he, _, _, h2⟩ := hat j ents[j] (Array.getElem?_eq_getElem hj)
                    show ents[j].born < clock
                    rw [h2]; exact hok0.lt e he
                  · rw [hkeys]
                    have : es.map (fun e => Value.string e.key) = (es.map (·.key)).map Value.string := by rw [List.map_map]; rfl
                    rw [this]
                    exact List.pairwise_map.2 (hok0.keys.imp fun hne h => hne (by injection h))
                  · obtain ⟨e, _, h1, _⟩ := hreads x hx
                    exact ⟨_, h1⟩
                have hown : w.ownsMap Try.prog 9 anyR g ents.size (.map ((ents.toList.map (rg Try.prog 9 anyR)).foldr DataW.insert [])) := ⟨ents, clock, hmb, hfit, Nat.le_refl _, rfl⟩
                have hsk : (strKeys (DataW.map ((ents.toList.map (rg Try.prog 9 anyR)).foldr DataW.insert []))).Perm (es.map fun e => e.key.data.toList) := by
                  refine ((sorted_perm _).map _).trans ?_
                  have : (ents.toList.map (rg Try.prog 9 anyR)).map (fun p => strOf p.1) = es.map fun e => e.key.data.toList := by
                    refine List.ext_getElem? fun j => ?_
                    rw [List.map_map, List.getElem?_map, List.getElem?_map]
                    by_cases hj : j < es.length
                    · obtain ⟨e, he, h1, h2, _⟩ := hat j ents[j] (Array.getElem?_eq_getElem (by omega))
                      rw [h1, Array.getElem?_toList, Array.getElem?_eq_getElem (by omega), Option.map_some, Option.map_some]
                      have h3 : rd Try.prog 9 anyR ents[j] = some (.string e.key.data.toList, .nil) := by
                        unfold rd
                        rw [h2, keyOf_mk (by have := hs e he; simp only [maxLen]; omega)]; rfl
                      simp only [Function.comp, rg_of h3]; rfl
                    · rw [List.getElem?_eq_none (by rw [Array.length_toList]; omega), List.getElem?_eq_none (by omega)]; rfl
                  rw [this]
                have hsz : Maps.size (DataW.map ((ents.toList.map (rg Try.prog 9 anyR)).foldr DataW.insert [])) = es.length := by
                  rw [Maps.size_eq, (sorted_perm _).length_eq, List.length_map, Array.length_toList, hel]
                have hseq := AnyZ.keys_gives (ρ := Try.keysL_ren) { Try.keysL with } Fence.wide 2 trivial rfl (by omega) B g ents.size _ w hBlt hcell hown
                have cS := AnyZ.sorted_in Try.sortedL Fence.wide 5 trivial trivial trivial trivial rfl (by omega) (sortsK _) (enters_of Try.func52 (by kernel_rfl) rfl) 53 #[.pointer (some ⟨B, 0, none⟩)] trivial (enters_of Try.func53 (by kernel_rfl) rfl) _ _ (by rw [hsz]; simp only [maxLen]; omega) (by rw [hsz]; omega) w hseq
                refine ((callsIn_wide (n := 5)).1 cS).mono fun e w' ⟨v, ss, he, hS, hrow, hnil, hb⟩ => ?_
                subst he
                have hpp := hS.trans hsk
                have hln : ss.length = es.length := by rw [hpp.length_eq, List.length_map]
                rw [mergeSort_of_perm hpp] at hrow
                have hmap : (es.map fun e => e.key.data.toList) = (es.map (·.key)).map fun s => s.data.toList := by rw [List.map_map]; rfl
                rw [hmap, ← sortK_enc, hln] at hrow
                have hl2 : (sortK (es.map (·.key))).length = es.length := by rw [sortK_len, List.length_map]
                rw [← hl2] at hrow ⊢
                exact done_ownsRow (enc := strC) (m := true) hok hb (fun _ => rfl) (fun x u hu => by simp only [strC, List.mem_singleton] at hu; subst hu; rfl) szOf_str (by rw [hl2]; simp only [maxLen]; omega) hrow (fun h h2 => .inl ⟨rfl, by
                  have := congrArg List.length h2
                  rw [hl2] at this
                  exact List.eq_nil_of_length_eq_zero this, rfl, rfl⟩) (.inr ⟨rfl, rfl, rfl⟩)
              · cases he
          · cases he
end Go.Proofs.Ytmgpfckkafcllaa
