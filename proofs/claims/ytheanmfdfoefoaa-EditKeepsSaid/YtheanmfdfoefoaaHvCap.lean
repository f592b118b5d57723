/- Abstract values over an abstract heap: a row is shut; how much room there is. Plain: over any program. -/
import Derived.Test.YtheanmfdfoefoaaHvNew
set_option linter.unusedVariables false
set_option linter.unusedSimpArgs false
namespace Go.Proofs.Ytheanmfdfoefoaa.Hv
open Go Go.RowKit
section
variable {P : Program} {N : Nat} {F : Nat → Nat → Prop} {w0 w w' : World} {gb0 gb : Gb} {H0 H : Hp} {n : Nat} {s : AS} {a : Act} {K : AS → Prop}
theorem HeapOk.shut {id : Nat} {m : Bool} {e : TypeId} {items : List (List AV)} (h : HeapOk P w F gb H n) (ho : H id = some (.row m e items)) (hne : items ≠ []) :
    HeapOk P w F gb (upd H id (some (.frz e items))) n ∧ (∀ b o, Wh gb (upd H id (some (.frz e items))) b o → Wh gb H b o) ∧ (∀ b, Xh gb (upd H id (some (.frz e items))) b → Xh gb H b) := by
  have hxold : ¬ exO (some (AO.frz e items)) := fun h => h
  have hwh : ∀ b o, Wh gb (upd H id (some (.frz e items))) b o → Wh gb H b o := by
    rintro b o ⟨j, t, hj, hw⟩
    by_cases hji : j = id
    · subst hji; rw [upd_same] at hw; exact absurd (wrO_exO hw) hxold
    · rw [upd_other (fun e => hji e.symm)] at hw; exact ⟨j, t, hj, hw⟩
  have hex : ∀ j, exO (upd H id (some (.frz e items)) j) → exO (H j) := fun j hj => by
    by_cases hji : j = id
    · subst hji; rw [upd_same] at hj; exact absurd hj hxold
    · rwa [upd_other (fun e => hji e.symm)] at hj
  have hxh : ∀ b, Xh gb (upd H id (some (.frz e items))) b → Xh gb H b := by
    rintro b ⟨j, t, hj, hx⟩
    exact ⟨j, t, hj, hex j hx⟩
  have hcold : ∀ g t, gb id = some (g, t) → ∀ o, ¬ Wr F gb (upd H id (some (.frz e items))) g o := by
    rintro g t hg o (hf | ⟨j, t', hj, hw⟩)
    · exact h.FX g o hf ⟨id, t, hg, by rw [ho]; trivial⟩
    · by_cases hji : j = id
      · subst hji; rw [upd_same] at hw; exact hw
      · rw [upd_other (fun e => hji e.symm)] at hw
        exact hji (h.one j id g t' t hj hg (wrO_exO hw) (by rw [ho]; trivial))
  have hk : ∀ b o u, ¬ Wr F gb H b o → w.cell? ⟨b, o, none⟩ = some u → w.cell? ⟨b, o, none⟩ = some u ∧ ¬ Wr F gb (upd H id (some (.frz e items))) b o := fun b o u hn hcl => ⟨hcl, fun hw => hn (Or.imp_right (hwh b o) hw)⟩
  have hidn : id < n := Nat.lt_of_not_le fun hle => by rw [h.new id hle] at ho; cases ho
  refine ⟨⟨h.lt, fun j hj => ?_, fun j o hj => ?_, fun i j g t t' hi hj hxi hxj => h.one i j g t t' hi hj (hex i hxi) (hex j hxj), h.FB, fun b o hf hx => h.FX b o hf (hxh b hx)⟩, hwh, hxh⟩
  · rw [upd_other (by omega)]; exact h.new j hj
  · by_cases hji : j = id
    · subst hji
      rw [upd_same] at hj
      injection hj with hj
      subst hj
      rcases h.live j _ ho with ⟨g', t, hg', h0, cur, fr, h1, hf, h2, h3, h4⟩ | ⟨hn, hh⟩
      · exact .inl ⟨g', t, hg', h0, cur, fr, h1, hf, h2, h3, h4.keep hk (Ext.refl _), fun o hlt => hcold g' t hg' o⟩
      · obtain ⟨_, _, hh⟩ := hh
        injection hh with _ _ hh
        exact absurd hh hne
    · rw [upd_other (fun e => hji e.symm)] at hj
      rcases h.live j o hj with ⟨g', t, hg', hrr⟩ | hh
      · exact .inl ⟨g', t, hg', hrr.keep rfl hk (Ext.refl _)⟩
      · exact .inr hh
/-- A row is from here on only for reading. -/
theorem gh_shut {id : Nat} {m : Bool} {e : TypeId} {items : List (List AV)} (ho : s.heap id = some (.row m e items)) (hne : items ≠ []) (h : K (s.chg id (some (.frz e items)))) : Gh P s K := by
  rintro N F w0 gb0 H0 a w ⟨gb, g⟩
  obtain ⟨h1, h2, h3⟩ := g.ok.shut ho hne
  exact ⟨_, h, gb, g.kept, g.ext, h1, fun b o hlt hw => g.wr0 b o hlt (h2 b o hw), fun b hlt hx => g.x0 b hlt (h3 b hx), g.size, g.defers, fun t => (g.slots t).keep (fun b o u hn hcl => ⟨hcl, fun hw => hn (Or.imp_right (h2 b o) hw)⟩) (Ext.refl _)⟩
/-- An object may be taken for another one. -/
theorem Good.repl {id : Nat} {oo oo' : AO} (g : Good P N F w0 gb0 H0 s a w gb) (ho : s.heap id = some oo) (hx : exO (some oo') → exO (some oo)) (hw : ∀ k, wrO (some oo') k ↔ wrO (some oo) k)
    (hr : ∀ gg size, gb id = some (gg, size) → ObjRep P w (Wr F gb s.heap) gb gg size oo → ObjRep P w (Wr F gb s.heap) gb gg size oo') (hn : ∀ m e, oo = .row m e [] → ∃ m e, oo' = .row m e []) : Good P N F w0 gb0 H0 (s.chg id (some oo')) a w gb := by
  have hwr : ∀ b o, Wr F gb (upd s.heap id (some oo')) b o ↔ Wr F gb s.heap b o := wr_chg ho hw
  have hk : ∀ b o u, ¬ Wr F gb s.heap b o → w.cell? ⟨b, o, none⟩ = some u → w.cell? ⟨b, o, none⟩ = some u ∧ ¬ Wr F gb (upd s.heap id (some oo')) b o := fun b o u hn hcl => ⟨hcl, fun hw => hn ((hwr b o).1 hw)⟩
  have hex : ∀ j, exO (upd s.heap id (some oo') j) → exO (s.heap j) := fun j hj => by
    by_cases hji : j = id
    · subst hji; rw [upd_same] at hj; rw [ho]; exact hx hj
    · rwa [upd_other (fun e => hji e.symm)] at hj
  have hxh : ∀ b, Xh gb (upd s.heap id (some oo')) b → Xh gb s.heap b := by
    rintro b ⟨j, t, hj, hx⟩
    exact ⟨j, t, hj, hex j hx⟩
  have hwh : ∀ b o, Wh gb (upd s.heap id (some oo')) b o → Wh gb s.heap b o := by
    rintro b o ⟨j, t, hj, hh⟩
    by_cases hji : j = id
    · subst hji; rw [upd_same] at hh; exact ⟨j, t, hj, by rw [ho]; exact (hw o).1 hh⟩
    · rw [upd_other (fun e => hji e.symm)] at hh; exact ⟨j, t, hj, hh⟩
  have h := g.ok
  have hidn : id < s.next := Nat.lt_of_not_le fun hle => by rw [h.new id hle] at ho; cases ho
  refine ⟨g.kept, g.ext, ⟨h.lt, fun j hj => ?_, fun j o hj => ?_, fun i j g t t' hi hj hxi hxj => h.one i j g t t' hi hj (hex i hxi) (hex j hxj), h.FB, fun b o hf hx => h.FX b o hf (hxh b hx)⟩, fun b o hlt hw => g.wr0 b o hlt (hwh b o hw), fun b hlt hx => g.x0 b hlt (hxh b hx), g.size, g.defers, fun t => (g.slots t).keep hk (Ext.refl _)⟩
  · show upd s.heap id (some oo') j = none
    rw [upd_other (by have : s.next ≤ j := hj; omega)]; exact h.new j hj
  · replace hj : upd s.heap id (some oo') j = some o := hj
    by_cases hji : j = id
    · subst hji
      rw [upd_same] at hj
      injection hj with hj
      subst hj
      rcases h.live j _ ho with ⟨g', t, hg', hrr⟩ | ⟨hn', m, e, hh⟩
      · exact .inl ⟨g', t, hg', (hr g' t hg' hrr).keep rfl hk (Ext.refl _)⟩
      · exact .inr ⟨hn', hn m e hh⟩
    · rw [upd_other (fun e => hji e.symm)] at hj
      rcases h.live j o hj with ⟨g', t, hg', hrr⟩ | hh
      · exact .inl ⟨g', t, hg', hrr.keep rfl hk (Ext.refl _)⟩
      · exact .inr hh
/-- A row's beginning, and its room. -/
def withCap (c : Nat) : AV → AV
  | .rw id sz 0 len => .rc id sz len c
  | x => x
def capOk (c : Nat) : AV → Prop
  | .rw _ _ 0 len => len ≤ c ∧ c ≤ maxLen
  | _ => True
theorem rep_cap {W : Nat → Nat → Prop} {x : AV} {v : Value} (h : Rep w W gb x v) : ∃ c, Rep w W gb (withCap c x) v ∧ capOk c x := by
  cases x with
  | rw id sz ko len =>
    cases ko with
    | zero =>
      cases h with
      | rw _ _ _ _ g size c hg hs hc hm =>
        refine ⟨c, ?_, hc, hm⟩
        rw [Nat.zero_mul]
        exact Rep.rc id sz len c g size hg (by rw [Nat.zero_mul, Nat.zero_add] at hs; exact hs) hc hm
      | rwn => exact ⟨0, Rep.rcn id sz, Nat.le_refl _, Nat.zero_le _⟩
      | rwz _ _ _ off g size hg => exact ⟨0, Rep.rcz id sz off g size hg, Nat.le_refl _, Nat.zero_le _⟩
    | succ k => exact ⟨0, h, trivial⟩
  | _ => exact ⟨0, h, trivial⟩
theorem repL_cap {W : Nat → Nat → Prop} {cs : List AV} {us : List Value} (h : RepL w W gb cs us) : ∃ f : Nat → Nat, RepL w W gb (cs.mapIdx fun j x => withCap (f j) x) us ∧ ∀ (j : Nat) (x : AV), cs[j]? = some x → capOk (f j) x := by
  have hx : ∀ j : Nat, ∃ c, ∀ (x : AV) (u : Value), cs[j]? = some x → us[j]? = some u → Rep w W gb (withCap c x) u ∧ capOk c x := fun j => by
    by_cases hj : j < cs.length
    · obtain ⟨c, h1, h2⟩ := rep_cap (h.rep j cs[j] (us[j]'(by rw [← h.len]; exact hj)) (List.getElem?_eq_getElem hj) (List.getElem?_eq_getElem _))
      refine ⟨c, fun x u hx hu => ?_⟩
      rw [List.getElem?_eq_getElem hj] at hx
      rw [List.getElem?_eq_getElem (by rw [← h.len]; exact hj)] at hu
      injection hx with hx
      injection hu with hu
      subst hx hu
      exact ⟨h1, h2⟩
    · exact ⟨0, fun x u hx => by rw [List.getElem?_eq_none (by omega)] at hx; cases hx⟩
  obtain ⟨f, hf⟩ : ∃ f : Nat → Nat, ∀ (j : Nat) (x : AV) (u : Value), cs[j]? = some x → us[j]? = some u → Rep w W gb (withCap (f j) x) u ∧ capOk (f j) x := ⟨fun j => Classical.choose (hx j), fun j => Classical.choose_spec (hx j)⟩
  refine ⟨f, ⟨by simp [h.len], h.one, fun j c u hc hu => ?_⟩, fun j x hj => ?_⟩
  · rw [List.getElem?_mapIdx, Option.map_eq_some_iff] at hc
    obtain ⟨x, hx, rfl⟩ := hc
    exact (hf j x u hx hu).1
  · have hlt := (List.getElem?_eq_some_iff.1 hj).1
    exact (hf j x _ hj (List.getElem?_eq_getElem (by rw [← h.len]; exact hlt))).2
theorem flat_one {α : Type} (l : List α) : (l.map fun x => [x]).flatten = l := by
  induction l with
  | nil => rfl
  | cons a l ih => rw [List.map_cons, List.flatten_cons, ih]; rfl
/-- How much room the rows have that stand in a row. -/
theorem gh_caps {id : Nat} {m : Bool} {e : TypeId} {xs : List AV} (ho : s.heap id = some (.row m e (xs.map fun x => [x]))) (h : ∀ f : Nat → Nat, (∀ (j : Nat) (x : AV), xs[j]? = some x → capOk (f j) x) → K (s.chg id (some (.row m e ((xs.mapIdx fun j x => withCap (f j) x).map fun x => [x]))))) : Gh P s K := by
  rintro N F w0 gb0 H0 a w ⟨gb, g⟩
  have hlen : ∀ f : Nat → Nat, ((xs.mapIdx fun j x => withCap (f j) x).map fun x => [x]).flatten.length = (xs.map fun x => [x]).flatten.length := fun f => by rw [flat_one, flat_one, List.length_mapIdx]
  have hw : ∀ (f : Nat → Nat) (k : Nat), wrO (some (AO.row m e ((xs.mapIdx fun j x => withCap (f j) x).map fun x => [x]))) k ↔ wrO (some (AO.row m e (xs.map fun x => [x]))) k := fun f k => by
    cases m with
    | true => exact Iff.rfl
    | false =>
      show _ ≤ k ↔ _ ≤ k
      rw [hlen f]
  rcases g.ok.live id _ ho with ⟨gg, size, hg, h0, cur, fr, h1, hf, h2, h3, h4⟩ | ⟨hn, m', e', hh⟩
  · rw [flat_one] at h4
    obtain ⟨f, h5, h6⟩ := repL_cap h4
    refine ⟨_, h f h6, gb, g.repl ho (fun h => h) (hw f) (fun gg' size' hg' _ => ?_) (fun m' e' hh => ?_)⟩
    · rw [hg] at hg'
      injection hg' with hg'
      injection hg' with e1 e2
      subst e1 e2
      refine ⟨fun it hit => ?_, cur, fr, h1, hf, h2, by rw [hlen f]; exact h3, ?_⟩
      · obtain ⟨y, hy, rfl⟩ := List.mem_map.1 hit
        have hpos : 0 < xs.length := by
          have := List.length_pos_of_mem hy
          rwa [List.length_mapIdx] at this
        have := h0 [xs[0]] (List.mem_map.2 ⟨xs[0], List.getElem_mem hpos, rfl⟩)
        exact this
      · rw [hlen f, flat_one, flat_one]
        exact h5
    · injection hh with _ _ hh
      have hx : xs = [] := by simpa using hh
      subst hx
      exact ⟨m, e, rfl⟩
  · injection hh with _ _ hh
    have hx : xs = [] := by simpa using hh
    subst hx
    refine ⟨_, h (fun _ => 0) (fun j x hj => by simp at hj), gb, ?_⟩
    exact g.repl ho (fun h => h) (hw _) (fun gg size hg _ => by rw [hn] at hg; cases hg) (fun _ _ _ => ⟨m, e, rfl⟩)
/-- .. in a variable. -/
theorem gh_capv {id : Nat} {cs : List AV} (ho : s.heap id = some (.cells cs)) (h : ∀ f : Nat → Nat, (∀ (j : Nat) (x : AV), cs[j]? = some x → capOk (f j) x) → K (s.chg id (some (.cells (cs.mapIdx fun j x => withCap (f j) x))))) : Gh P s K := by
  rintro N F w0 gb0 H0 a w ⟨gb, g⟩
  rcases g.ok.live id _ ho with ⟨gg, size, hg, cur, e, fr, h1, hf, h2, h4⟩ | ⟨hn, m', e', hh⟩
  · obtain ⟨f, h5, h6⟩ := repL_cap h4
    refine ⟨_, h f h6, gb, g.repl ho (fun h => h) (fun k => Iff.rfl) (fun gg' size' hg' _ => ?_) (fun m' e' hh => by cases hh)⟩
    rw [hg] at hg'
    injection hg' with hg'
    injection hg' with e1 e2
    subst e1 e2
    exact ⟨cur, e, fr, h1, hf, h2, h5⟩
  · cases hh
/-- .. and where there is no row there is no room (z: how many cells a thing has). -/
def withCapN (z c : Nat) : AV → AV
  | .rw id sz 0 len => .rc id sz len c
  | .lit v => bif isNilV v then .rc 0 z 0 0 else .lit v
  | x => x
theorem rep_capN {W : Nat → Nat → Prop} {x : AV} {v : Value} (z : Nat) (h : Rep w W gb x v) : ∃ c, Rep w W gb (withCapN z c x) v ∧ capOk c x := by
  cases x with
  | rw id sz ko len =>
    obtain ⟨c, h1, h2⟩ := rep_cap h
    cases ko with
    | zero => exact ⟨c, h1, h2⟩
    | succ k => exact ⟨c, h, h2⟩
  | lit u =>
    refine ⟨0, ?_, trivial⟩
    show Rep w W gb (bif isNilV u then .rc 0 z 0 0 else .lit u) v
    cases hn : isNilV u with
    | true =>
      have := rep_lit h
      subst this
      unfold isNilV at hn
      split at hn
      · exact .rcn 0 z
      · cases hn
    | false => exact h
  | _ => exact ⟨0, h, trivial⟩
theorem gh_capn {id : Nat} {cs : List AV} (z : Nat) (ho : s.heap id = some (.cells cs)) (h : ∀ f : Nat → Nat, (∀ (j : Nat) (x : AV), cs[j]? = some x → capOk (f j) x) → K (s.chg id (some (.cells (cs.mapIdx fun j x => withCapN z (f j) x))))) : Gh P s K := by
  rintro N F w0 gb0 H0 a w ⟨gb, g⟩
  rcases g.ok.live id _ ho with ⟨gg, size, hg, cur, e, fr, h1, hf, h2, h4⟩ | ⟨hn, m', e', hh⟩
  · have hx : ∀ j : Nat, ∃ c, ∀ (x : AV) (u : Value), cs[j]? = some x → cur.toList[j]? = some u → Rep w (Wr F gb s.heap) gb (withCapN z c x) u ∧ capOk c x := fun j => by
      by_cases hj : j < cs.length
      · obtain ⟨c, h5, h6⟩ := rep_capN z (h4.rep j cs[j] (cur.toList[j]'(by rw [← h4.len]; exact hj)) (List.getElem?_eq_getElem hj) (List.getElem?_eq_getElem _))
        refine ⟨c, fun x u hx hu => ?_⟩
        rw [List.getElem?_eq_getElem hj] at hx
        rw [List.getElem?_eq_getElem (by rw [← h4.len]; exact hj)] at hu
        injection hx with hx
        injection hu with hu
        subst hx hu
        exact ⟨h5, h6⟩
      · exact ⟨0, fun x u hx => by rw [List.getElem?_eq_none (by omega)] at hx; cases hx⟩
    obtain ⟨f, hf'⟩ : ∃ f : Nat → Nat, ∀ (j : Nat) (x : AV) (u : Value), cs[j]? = some x → cur.toList[j]? = some u → Rep w (Wr F gb s.heap) gb (withCapN z (f j) x) u ∧ capOk (f j) x := ⟨fun j => Classical.choose (hx j), fun j => Classical.choose_spec (hx j)⟩
    refine ⟨_, h f (fun j x hj => ?_), gb, g.repl ho (fun h => h) (fun k => Iff.rfl) (fun gg' size' hg' _ => ?_) (fun m' e' hh => by cases hh)⟩
    · have hlt := (List.getElem?_eq_some_iff.1 hj).1
      exact (hf' j x _ hj (List.getElem?_eq_getElem (by rw [← h4.len]; exact hlt))).2
    · rw [hg] at hg'
      injection hg' with hg'
      injection hg' with e1 e2
      subst e1 e2
      refine ⟨cur, e, fr, h1, hf, h2, by simp [h4.len], h4.one, fun j c u hc hu => ?_⟩
      rw [List.getElem?_mapIdx, Option.map_eq_some_iff] at hc
      obtain ⟨x, hx, rfl⟩ := hc
      exact (hf' j x u hx hu).1
  · cases hh
theorem wrap_up {k : Nat} (h : k < 9223372036854775807) : IntKind.i64.wrap ((k : Int) + 1) = ((k + 1 : Nat) : Int) := by
  simp [IntKind.wrap, IntKind.bits, IntKind.signed]; omega
end
end Go.Proofs.Ytheanmfdfoefoaa.Hv
