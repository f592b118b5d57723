/- slices.SortFunc at rows of structs, for the walk over an abstract heap: the shelf's contract led over. Plain: over any program. -/
import Derived.Test.YtheanmfdfoefoaaHvFn
import Derived.Shelf.SlSortCmp.WholeK
import Derived.Shelf.SlSortCmp.NoneTotal
import Derived.Shelf.SortM.Plain
import Derived.Shelf.SortM.SortNone
set_option linter.unusedVariables false
set_option linter.unusedSimpArgs false
namespace Go.Proofs.Ytheanmfdfoefoaa.Hv
open Go Go.RowKit Go.Sort Go.Shelf

set_option linter.unusedSectionVars false
section
variable {α : Type} [Inhabited α]
theorem flatK_list' (enc : α → List Value) (k : Nat) (hk : ∀ x, (enc x).length = k) (d : Array α) : (flatK enc k d).toList = d.toList.flatMap enc := by
  have hl := flatMap_len hk d.toList
  apply List.ext_getElem?
  intro i
  by_cases hi : i < d.size * k
  · have hk0 : 0 < k := by
      rcases Nat.eq_zero_or_pos k with h | h
      · subst h; simp at hi
      · exact h
    have hq : i / k < d.size := Nat.div_lt_of_lt_mul (by rw [Nat.mul_comm]; exact hi)
    have hr : i % k < k := Nat.mod_lt _ hk0
    have h1 := flatMap_get hk d.toList (i / k) (i % k) (by simpa using hq) hr
    rw [show i / k * k + i % k = i from by rw [Nat.mul_comm]; exact Nat.div_add_mod i k] at h1
    rw [h1]
    have h2 := get_flatK enc k d i hi
    have h3 : i < (flatK enc k d).size := by rw [size_flatK]; exact hi
    rw [getElem!_pos (flatK enc k d) i h3] at h2
    have h4 : (flatK enc k d).toList[i]? = some (flatK enc k d)[i] := by rw [List.getElem?_eq_getElem (by simpa using h3)]; simp
    rw [h4, h2, getElem!_pos d (i / k) hq, getElem!_pos _ _ (by rw [hk]; exact hr)]
    simp
  · rw [List.getElem?_eq_none (by simp only [Array.length_toList, size_flatK]; omega), List.getElem?_eq_none (by rw [hl]; simp only [Array.length_toList]; omega)]
theorem put_heap' {enc : α → List Value} {k : Nat} {w : World} {g : Nat} {cur : Array Value} {t : TypeId} {fr : Nat × Nat} {d : Array α} (hg : w.heap[g]? = some (.cells cur t fr)) :
    (putRowK enc k w g 0 d).heap[g]? = some (.cells (putCells id 0 (flatK enc k d) cur) t fr) := by
  show (w.heap.modify g (onCells _))[g]? = _
  rw [Array.getElem?_modify, if_pos rfl, hg]
  rfl
theorem put_far' {enc : α → List Value} {k : Nat} {w : World} {g b off : Nat} {d : Array α} (h : b ≠ g) : (putRowK enc k w g off d).heap[b]? = w.heap[b]? := by
  show (w.heap.modify g (onCells _))[b]? = _
  rw [Array.getElem?_modify, if_neg (fun e => h e.symm)]
def encA (enc : α → List Value) (x : α) : List AV := (enc x).map .lit
theorem encA_flat (enc : α → List Value) (l : List α) : (l.map (encA enc)).flatten = (l.flatMap enc).map AV.lit := by
  induction l with
  | nil => rfl
  | cons a l ih => simp only [List.map_cons, List.flatten_cons, List.flatMap_cons, List.map_append, ih, encA]
theorem repL_lits' {w : World} {W : Nat → Nat → Prop} {gb : Gb} {us : List Value} (h1 : ∀ u ∈ us, u.oneCell' = true) : RepL w W gb (us.map AV.lit) us := by
  refine ⟨by simp, h1, fun j c u hc hu => ?_⟩
  rw [List.getElem?_map, hu] at hc
  simp only [Option.map_some, Option.some.injEq] at hc
  subst hc
  exact .lit u
theorem lits_repL {w : World} {W : Nat → Nat → Prop} {gb : Gb} {us vs : List Value} (h : RepL w W gb (us.map AV.lit) vs) : vs = us := by
  have hl := h.len
  rw [List.length_map] at hl
  apply List.ext_getElem?
  intro j
  by_cases hj : j < us.length
  · have := h.rep j (.lit us[j]) vs[j] (by rw [List.getElem?_map, List.getElem?_eq_getElem hj]; rfl) (List.getElem?_eq_getElem (by omega))
    rw [List.getElem?_eq_getElem hj, List.getElem?_eq_getElem (by omega), rep_lit this]
  · rw [List.getElem?_eq_none (by omega), List.getElem?_eq_none (by omega)]
theorem upd_self {H : Hp} {i : Nat} {o : AO} (h : H i = some o) : upd H i (some o) = H := by
  funext j
  by_cases hj : j = i
  · subst hj; rw [upd_same, h]
  · rw [upd_other (fun e => hj e.symm)]
theorem done_same {P : Program} {F : Nat → Nat → Prop} {gb : Gb} {H : Hp} {n : Nat} {w : World} {Post : AV → Hp → Nat → Prop} {v : Value} {r : AV} (hok : HeapOk P w F gb H n) (hp : Post r H n) (hr : Rep w (Wr F gb H) gb r v) : ∃ v' r' H' n' gb', Done P F gb H w Post (.returned v) w v' r' H' n' gb' :=
  ⟨v, r, H, n, gb, rfl, hp, Kept.refl _ _ _, Ext.refl _, hok, fun _ _ _ h => h, fun _ _ h => h, hr⟩
theorem perm_of_permIn {d d' : Array α} (h : PermIn 0 d.size d d') : d'.toList.Perm d.toList := by
  obtain ⟨hs, _, hp⟩ := h
  have e1 : d'.extract 0 d.size = d' := by rw [← hs]; simp
  have e2 : d.extract 0 d.size = d := by simp
  rwa [e1, e2] at hp
theorem pairwise_of_sortedIn {lt : α → α → Bool} {d : Array α} {n : Nat} (hn : d.size = n) (h : SortedIn lt 0 n d) : d.toList.Pairwise fun x y => lt y x = false := by
  rw [List.pairwise_iff_getElem]
  intro i j hi hj hij
  have hi' : i < d.size := by simpa using hi
  have hj' : j < d.size := by simpa using hj
  have := h i j (Nat.zero_le _) hij (by omega)
  rw [getElem!_pos d i hi', getElem!_pos d j hj'] at this
  simpa using this
structure RowAt (P : Program) (w : World) (F : Nat → Nat → Prop) (gb : Gb) (H : Hp) (e : Nat) (enc : α → List Value) (l : List α) (g0 size : Nat) (cur : Array Value) (fr : Nat × Nat) : Prop where
  hb : w.heap[g0]? = some (.cells cur e fr)
  hf : Cold size fr
  hsize : cur.size = size
  hfl : (l.flatMap enc).length ≤ size
  htk : cur.toList.take (l.flatMap enc).length = l.flatMap enc
theorem row_at {P : Program} {w : World} {F : Nat → Nat → Prop} {gb : Gb} {H : Hp} {n id e g0 size : Nat} {enc : α → List Value} {l : List α} (hok : HeapOk P w F gb H n) (ho : H id = some (.row true e (l.map (encA enc)))) (hg : gb id = some (g0, size)) : ∃ cur fr, RowAt P w F gb H e enc l g0 size cur fr := by
  rcases hok.live id _ ho with ⟨g', size', hg', h0, cur, fr, hb, hf, hsize, hfl, hrl⟩ | ⟨hn, _⟩
  · rw [hg] at hg'
    injection hg' with hg'
    injection hg' with e1 e2
    subst e1 e2
    rw [encA_flat, List.length_map] at hfl hrl
    exact ⟨cur, fr, hb, hf, hsize, hfl, lits_repL hrl⟩
  · rw [hn] at hg; cases hg
theorem row_holds {P : Program} {w : World} {F : Nat → Nat → Prop} {gb : Gb} {H : Hp} {e g0 size k : Nat} {enc : α → List Value} {l : List α} {cur : Array Value} {fr : Nat × Nat} (hk : ∀ x, (enc x).length = k) (hr : RowAt P w F gb H e enc l g0 size cur fr) : HoldsK enc k w g0 (0 * k) l.toArray := by
  obtain ⟨hb, hf, hsize, hfl, htk⟩ := hr
  have hlf : (l.flatMap enc).length = l.length * k := flatMap_len hk l
  intro j hj
  rw [size_flatK] at hj
  have hj' : j < (l.flatMap enc).length := by rw [hlf]; simpa using hj
  have hjc : j < cur.size := by omega
  have e1 : (flatK enc k l.toArray)[j]! = (l.flatMap enc)[j]'hj' := by
    have h3 : j < (flatK enc k l.toArray).size := by rw [size_flatK]; exact hj
    rw [getElem!_pos (flatK enc k l.toArray) j h3]
    have h4 : (flatK enc k l.toArray).toList[j]? = (l.flatMap enc)[j]? := by rw [flatK_list' enc k hk]
    rw [List.getElem?_eq_getElem hj', List.getElem?_eq_getElem (by simpa using h3)] at h4
    injection h4
  have e2 : (l.flatMap enc)[j]'hj' = cur[j]'hjc := by
    have h5 : (cur.toList.take (l.flatMap enc).length)[j]? = (l.flatMap enc)[j]? := by rw [htk]
    rw [List.getElem?_take, if_pos hj', List.getElem?_eq_getElem hj', List.getElem?_eq_getElem (by simpa using hjc)] at h5
    injection h5 with h5
    rw [← h5]; simp
  rw [e1, e2, Nat.zero_mul, Nat.zero_add]
  refine ⟨by simp [World.cell?, hb, hjc], ?_⟩
  simp only [World.frozen?, hb]
  rcases hf with h | h
  · simp; omega
  · simp; omega
theorem put_done {P : Program} {w : World} {F : Nat → Nat → Prop} {gb : Gb} {H : Hp} {n id e g0 size k nn : Nat} {enc : α → List Value} {l l' : List α} {cur : Array Value} {fr : Nat × Nat} {os : Array Obj} {Post : AV → Hp → Nat → Prop} (hk : ∀ x, (enc x).length = k) (h1 : ∀ x, ∀ v ∈ enc x, v.oneCell' = true) (hsz : szOf P e = k) (hok : HeapOk P w F gb H n) (ho : H id = some (.row true e (l.map (encA enc)))) (hg : gb id = some (g0, size)) (hr : RowAt P w F gb H e enc l g0 size cur fr)
    (hl' : l'.length = l.length) (hp : Post (.tup []) (upd H id (some (.row true e (l'.map (encA enc))))) n) : ∃ v r H' n' gb', Done P F gb H w Post (.returned (.tuple #[])) (grow (putRowK enc k (Sort.ahead w nn) g0 0 l'.toArray) os) v r H' n' gb' := by
  obtain ⟨hb, hf, hsize, hfl, htk⟩ := hr
  have hlf : (l.flatMap enc).length = l.length * k := flatMap_len hk l
  -- the world with the row put
  have hwr : ∀ o, Wh gb H g0 o := fun o => ⟨id, size, hg, by rw [ho]; trivial⟩
  obtain ⟨w1, hw1⟩ : ∃ w1, w1 = putRowK enc k (Sort.ahead w nn) g0 0 l'.toArray := ⟨_, rfl⟩
  have hb1 : w1.heap[g0]? = some (.cells (putCells (fun x => x) 0 (flatK enc k l'.toArray) cur) e fr) := by
    rw [hw1]; exact put_heap' (w := Sort.ahead w nn) hb
  have hc1 : Chg F gb H g0 w w1 := by
    refine ⟨by rw [hw1]; rfl, by rw [hw1]; rfl, by rw [hw1]; rfl, ?_, fun b hbn => ?_, fun o u hn _ => absurd (Or.inr (hwr o)) hn, fun c' e' fr' hc' => ?_⟩
    · rw [hw1]; show ((Sort.ahead w nn).heap.modify g0 _).size = _; simp [Sort.ahead]
    · rw [hw1]; exact put_far' (w := Sort.ahead w nn) hbn
    · rw [hb] at hc'
      injection hc' with hc'
      injection hc' with q1 q2 q3
      subst q1 q2 q3
      exact ⟨_, hb1, by simp [putCells]⟩
  have hlf' : (l'.flatMap enc).length = l'.length * k := flatMap_len hk l'
  have hcell : (putCells (fun x => x) 0 (flatK enc k l'.toArray) cur).toList.take (l'.flatMap enc).length = l'.flatMap enc := by
    rw [← flatK_list' enc k hk l'.toArray]
    apply List.ext_getElem?
    intro i
    have hsf : (flatK enc k l'.toArray).size = l'.length * k := by rw [size_flatK]; simp
    rw [List.getElem?_take]
    by_cases hi : i < l'.length * k
    · rw [if_pos (by simp only [Array.length_toList, hsf]; exact hi)]
      have hcs : l'.length * k ≤ cur.size := by rw [hl', hsize]; omega
      have hc' : i < cur.size := by omega
      have hf' : i < (flatK enc k l'.toArray).size := by omega
      rw [List.getElem?_eq_getElem (by simpa [putCells] using hc'), List.getElem?_eq_getElem (by simpa using hf')]
      simp only [putCells, Array.getElem_toList, Array.getElem_mapIdx, Nat.zero_le, true_and, Nat.zero_add, Nat.sub_zero]
      rw [if_pos hf', getElem!_pos (flatK enc k l'.toArray) i hf']
    · rw [if_neg (by simp only [Array.length_toList, hsf]; omega), List.getElem?_eq_none (by simp only [Array.length_toList, hsf]; omega)]
  have hobj : ObjRep P w1 (Wr F gb (upd H id (some (.row true e (l'.map (encA enc)))))) gb g0 size (.row true e (l'.map (encA enc))) := by
    refine ⟨fun it hit => ?_, _, fr, hb1, hf, by simp [putCells, hsize], ?_, ?_⟩
    · obtain ⟨x, _, rfl⟩ := List.mem_map.1 hit
      rw [encA, List.length_map, hk, hsz]
    · rw [encA_flat, List.length_map, hlf', hl', ← hlf]; exact hfl
    · rw [encA_flat, List.length_map, hcell]
      refine repL_lits' fun u hu => ?_
      obtain ⟨x, _, hx⟩ := List.mem_flatMap.1 hu
      exact h1 x u hx
  have hok1 := hok.change (oo' := .row true e (l'.map (encA enc))) ho trivial trivial (fun _ => Iff.rfl) hg hc1 hobj
  have hb2 : RowKit.Below w1.heap.size w1 (grow w1 os) := ⟨rfl, rfl, rfl, by simp [grow], fun b hb' => by simp [grow, Array.getElem?_append_left hb']⟩
  have hsz1 := hc1.size
  have hwh : ∀ b o, Wh gb (upd H id (some (.row true e (l'.map (encA enc))))) b o → Wh gb H b o := fun b o ⟨j, t, hj, hw⟩ => by
    refine ⟨j, t, hj, ?_⟩
    by_cases hji : j = id
    · subst hji; rw [ho]; trivial
    · rwa [upd_other (fun e => hji e.symm)] at hw
  have hxh : ∀ b, Xh gb (upd H id (some (.row true e (l'.map (encA enc))))) b → Xh gb H b := fun b ⟨j, t, hj, hx⟩ => by
    refine ⟨j, t, hj, ?_⟩
    by_cases hji : j = id
    · subst hji; rw [ho]; trivial
    · have hx' : exO (upd H id (some (.row true e (l'.map (encA enc)))) j) := hx
      rwa [upd_other (fun e => hji e.symm)] at hx'
  rw [← hw1]
  refine ⟨_, .tup [], upd H id (some (.row true e (l'.map (encA enc)))), n, gb, rfl, hp, ?_, Ext.refl _, hok1.world hb2, fun b o _ h => hwh b o h, fun b _ h => hxh b h, Rep.tup [] [] rfl fun j c u h => by simp at h⟩
  refine ⟨hb2.os.trans hc1.os, hb2.tape.trans hc1.tape, hb2.output.trans hc1.output, Nat.le_trans (Nat.le_of_eq hsz1.symm) hb2.size, fun b hb' hx => ?_, fun b o u hn hcl => ?_⟩
  · rw [hb2.block b (by omega)]
    exact hc1.oth b fun h => hx (by subst h; exact ⟨id, size, hg, by rw [ho]; trivial⟩)
  · have hlt := cell_lt hcl
    rw [hb2.cell (p := ⟨b, o, none⟩) (by show b < _; omega)]
    by_cases hbg : b = g0
    · subst hbg; exact absurd (hwr o) hn
    · rw [World.cell?_of_block (w := w) (a := ⟨b, o, none⟩) (hc1.oth b hbg)]; exact hcl
/-- slices.SortFunc at a row that may be written in. -/
theorem sortFunc_hc {P : Program} {ρ : Ren} (L : SlLaysF0.n6 P ρ) (k : Nat) (aE : ∀ w, (isAgg (ρ.t 24)).run P w = .ok true w) (zE : ∀ w, (Go.sizeOf (ρ.t 24)).run P w = .ok k w) (enc : α → List Value) (hk : ∀ x, (enc x).length = k) (h1 : ∀ x, ∀ v ∈ enc x, v.oneCell' = true) (cf : α → α → Int) (hO : SWO (ltOf cf)) (g : Nat) (hF : okF P (ρ.f 6) = true)
    (eg : ∀ args w, (callFunc g args).run P w = .ok (.enter g args) w) (hcmp : ∀ (x y : α) (W : World), Calls P g #[.agg (enc x).toArray, .agg (enc y).toArray] W fun e w' => e = .returned (.int .i64 (cf x y)) ∧ ∃ q os', w' = grow (W.drewN q) os')
    {H : Hp} {n id e : Nat} {l : List α} (ho : H id = some (.row true e (l.map (encA enc)))) (hsz : szOf P e = k) (hl : l.length < 4611686018427387904) :
    HCalls P (ρ.f 6) [.rw id k 0 l.length, .fn g []] H n fun r H' n' => r = .tup [] ∧ n' = n ∧ ∃ l' : List α, l'.Perm l ∧ l'.Pairwise (fun x y => ltOf cf y x = false) ∧ H' = upd H id (some (.row true e (l'.map (encA enc)))) := by
  refine ⟨hF, fun w F gb vs hok hlen hrep => ?_⟩
  match vs, hlen with
  | [v0, v1], _ =>
    have r0 := hrep 0 _ v0 rfl rfl
    have r1 := hrep 1 _ v1 rfl rfl
    obtain rfl : v1 = .func (.func g) #[] #[] := by
      cases r1 with
      | fn _ _ us hlu hu =>
        obtain rfl := List.eq_nil_of_length_eq_zero hlu.symm
        rfl
    rcases l with _ | ⟨x0, l0⟩
    · have key : ∀ p cap, Calls P (ρ.f 6) #[.slice p 0 cap, .func (.func g) #[] #[]] w fun e1 w' => ∃ v' r' H' n' gb', Done P F gb H w (fun r H' n' => r = .tup [] ∧ n' = n ∧ ∃ l' : List α, l'.Perm [] ∧ l'.Pairwise (fun x y => ltOf cf y x = false) ∧ H' = upd H id (some (.row true e (l'.map (encA enc))))) e1 w' v' r' H' n' gb' := fun p cap =>
        (AnyF.slices_SortFunc_none L p cap _ w).mono fun e' w' ⟨he, hw⟩ => by
          subst he hw
          refine done_same hok ⟨rfl, rfl, [], List.Perm.refl _, List.Pairwise.nil, ?_⟩ (Rep.tup [] [] rfl fun j c u h => by simp at h)
          exact (upd_self ho).symm
      cases r0 with
      | rw _ _ _ _ g0 size c hg hs hc hm => exact key _ _
      | rwn => exact key _ _
      | rwz _ _ _ off g0 size hg => exact key _ _
    · generalize hL : x0 :: l0 = l at *
      have hne : l.length ≠ 0 := by rw [← hL]; simp
      clear hL
      obtain ⟨m, hm0⟩ : ∃ m, m = l.length := ⟨_, rfl⟩
      rw [← hm0] at r0 hne
      cases r0 with
      | rwn => exact absurd rfl hne
      | rwz => exact absurd rfl hne
      | rw _ _ _ _ g0 size c hg hs hc hm =>
        subst hm0
        obtain ⟨cur, fr, hra⟩ := row_at hok ho hg
        have hH := row_holds hk hra
        have hblk : g0 < w.heap.size := (hok.lt id g0 size hg).2
        have hsort := AnyQ.slices_SortFunc L k aE zE enc hk h1 cf hO g #[] g0 (0 * k) c l.toArray w eg (fun m os dk _ x y => hcmp x y _) hH hblk (by simpa using hl)
        rw [show l.toArray.size = l.length from by simp] at hsort
        refine hsort.mono fun e' w' ⟨he, d', nn, os, hp, hso, hw⟩ => ?_
        subst he hw
        have hds : d'.size = l.length := by rw [hp.1]; simp
        have hperm : d'.toList.Perm l := by
          have := perm_of_permIn (d := l.toArray) (d' := d') (by rw [show l.toArray.size = l.length from by simp]; exact hp)
          simpa using this
        have hpw : d'.toList.Pairwise fun x y => ltOf cf y x = false := pairwise_of_sortedIn hds hso
        obtain ⟨l', rfl⟩ : ∃ l' : List α, d' = l'.toArray := ⟨d'.toList, by simp⟩
        simp only at hperm hpw
        rw [Nat.zero_mul]
        have hl' : l'.length = l.length := by simpa using hds
        exact put_done hk h1 hsz hok ho hg hra hl' ⟨rfl, rfl, l', hperm, hpw, rfl⟩
/-! ### slices.Sort -/
def intE (z : Int) : List Value := [.int .i64 z]
theorem flat_int (d : Array Int) : flatK intE 1 d = d.map (Value.int .i64) := by
  apply Array.toList_inj.1
  rw [flatK_list' intE 1 (fun _ => rfl)]
  rw [Array.toList_map]
  induction d.toList with
  | nil => rfl
  | cons a l ih => simp only [List.flatMap_cons, List.map_cons, ih]; rfl
theorem holds_int {w : World} {g : Nat} {d : Array Int} (h : HoldsK intE 1 w g 0 d) : Holds (Value.int .i64) w g 0 d := by
  intro j hj
  have h' : Holds id w g 0 (flatK intE 1 d) := h
  rw [flat_int] at h'
  have := h' j (by simpa using hj)
  rw [getElem!_pos (d.map (Value.int .i64)) j (by simpa using hj)] at this
  rw [getElem!_pos d j hj]
  simpa using this
theorem put_int (w : World) (g : Nat) (d : Array Int) : putRow (Value.int .i64) w g 0 d = putRowK intE 1 w g 0 d := by
  unfold putRowK putRow
  rw [flat_int]
  congr 1
  funext c
  unfold putCells
  congr 1
  funext k x
  simp only [Array.size_map, id, Nat.zero_add, Nat.sub_zero, Nat.zero_le, true_and]
  split
  · rename_i hk
    rw [getElem!_pos d k hk, getElem!_pos (d.map (Value.int .i64)) k (by simpa using hk)]
    simp
  · rfl
/-- slices.Sort at a row of ints that may be written in. -/
theorem sortInt_hc {P : Program} {ρ : Ren} (L : SlLaysM.n5 P ρ) (hF : okF P (ρ.f 5) = true) {H : Hp} {n id e : Nat} {l : List Int} (ho : H id = some (.row true e (l.map (encA intE)))) (hsz : szOf P e = 1) (hl : l.length < 4611686018427387904) :
    HCalls P (ρ.f 5) [.rw id 1 0 l.length] H n fun r H' n' => r = .tup [] ∧ n' = n ∧ H' = upd H id (some (.row true e ((l.mergeSort fun x y => decide (x ≤ y)).map (encA intE)))) := by
  refine ⟨hF, fun w F gb vs hok hlen hrep => ?_⟩
  match vs, hlen with
  | [v0], _ =>
    have r0 := hrep 0 _ v0 rfl rfl
    rcases l with _ | ⟨x0, l0⟩
    · have key : ∀ p cap, Calls P (ρ.f 5) #[.slice p 0 cap] w fun e1 w' => ∃ v' r' H' n' gb', Done P F gb H w (fun r H' n' => r = .tup [] ∧ n' = n ∧ H' = upd H id (some (.row true e ((([] : List Int).mergeSort fun x y => decide (x ≤ y)).map (encA intE))))) e1 w' v' r' H' n' gb' := fun p cap =>
        (AnyM.slices_Sort_int_none L p cap w).mono fun e' w' ⟨he, hw⟩ => by
          subst he hw
          refine done_same hok ⟨rfl, rfl, ?_⟩ (Rep.tup [] [] rfl fun j c u h => by simp at h)
          rw [List.mergeSort_nil]; exact (upd_self ho).symm
      cases r0 with
      | rw _ _ _ _ g0 size c hg hs hc hm => exact key _ _
      | rwn => exact key _ _
      | rwz _ _ _ off g0 size hg => exact key _ _
    · generalize hL : x0 :: l0 = l at *
      have hne : l.length ≠ 0 := by rw [← hL]; simp
      clear hL
      obtain ⟨m, hm0⟩ : ∃ m, m = l.length := ⟨_, rfl⟩
      rw [← hm0] at r0 hne
      cases r0 with
      | rwn => exact absurd rfl hne
      | rwz => exact absurd rfl hne
      | rw _ _ _ _ g0 size c hg hs hc hm =>
        subst hm0
        obtain ⟨cur, fr, hra⟩ := row_at hok ho hg
        have hH := row_holds (k := 1) (fun _ => rfl) hra
        have hblk : g0 < w.heap.size := (hok.lt id g0 size hg).2
        have hsort := AnyM.slices_Sort_int L g0 0 c l w (holds_int hH) hblk hl
        rw [Nat.zero_mul]
        refine hsort.mono fun e' w' ⟨he, nn, os, hw⟩ => ?_
        subst he hw
        rw [put_int]
        exact put_done (fun _ => rfl) (fun x v hv => by simp only [intE, List.mem_singleton] at hv; subst hv; rfl) hsz hok ho hg hra (by rw [List.length_mergeSort]) ⟨rfl, rfl, rfl⟩
end
end Go.Proofs.Ytheanmfdfoefoaa.Hv
