/- Abstract values: operations that only read give what is said of them. Plain: over any program. -/
import Derived.Test.YtheanmfdfoefoaaHvSem
set_option linter.unusedVariables false
set_option linter.unusedSimpArgs false
namespace Go.Proofs.Ytheanmfdfoefoaa.Hv
open Go Go.RowKit

section
variable {P : Program} {T : Tbl} {N : Nat} {F : Nat → Nat → Prop} {w0 w w' : World} {gb0 gb gb' : Gb} {H0 H H' : Hp} {s : AS} {a : Act} {n n' : Nat} {W : Nat → Nat → Prop} {o : Oper}
/-- A slice whose things are these, now. -/
def Reads (w : World) (W : Nat → Nat → Prop) (gb : Gb) (items : List (List AV)) (v : Value) : Prop :=
  ∃ (sz : Nat) (A : Option Addr) (c b off : Nat) (val : Nat → Value), (∀ it ∈ items, it.length = sz) ∧ v = .slice A items.length c ∧ items.length ≤ c ∧ c ≤ maxLen ∧ (items ≠ [] → A = some ⟨b, off, none⟩) ∧
    ∀ (j : Nat) (x : AV), items.flatten[j]? = some x → w.cell? ⟨b, off + j, none⟩ = some (val j) ∧ (val j).oneCell' = true ∧ Rep w W gb x (val j)
theorem Rep.reads {items : List (List AV)} {v : Value} (h : Rep w W gb (.sl items) v) : Reads w W gb items v := by
  cases h with
  | sl _ sz A c b off val hi hc hm ha hcell hF h1 hr => exact ⟨sz, A, c, b, off, val, hi, rfl, hc, hm, ha, fun j x hx => ⟨hcell j x hx, h1 j x hx, hr j x hx⟩⟩
theorem rep_sl_nil {n c : Nat} {A : Option Addr} (hn : n = 0) (hc : c ≤ maxLen) : Rep w W gb (.sl []) (.slice A n c) := by
  subst hn
  exact Rep.sl [] 0 A c 0 0 (fun _ => undef) (by simp) (by simp) hc (by simp) (by simp) (by simp) (by simp) (by simp)
theorem flatten_drop {items : List (List AV)} {sz ko j : Nat} {x : AV} (hi : ∀ it ∈ items, it.length = sz) (hx : (items.drop ko).flatten[j]? = some x) : items.flatten[ko * sz + j]? = some x := by
  induction items generalizing ko with
  | nil => simp at hx
  | cons i its ih =>
    cases ko with
    | zero => simpa using hx
    | succ l =>
      have h0 := hi i (by simp)
      rw [List.flatten_cons, List.getElem?_append_right (by rw [h0, Nat.succ_mul]; omega), h0, show (l + 1) * sz + j - sz = l * sz + j from by rw [Nat.succ_mul]; omega]
      exact ih (fun it hit => hi it (by simp [hit])) (by simpa using hx)
theorem flatten_take {items : List (List AV)} {len j : Nat} {x : AV} (hx : (items.take len).flatten[j]? = some x) : items.flatten[j]? = some x := by
  have h2 : items.flatten = (items.take len).flatten ++ (items.drop len).flatten := by rw [← List.flatten_append, List.take_append_drop]
  rw [h2, List.getElem?_append_left (List.getElem?_eq_some_iff.1 hx).1]
  exact hx
theorem flatten_piece {items : List (List AV)} {sz szI ko len j : Nat} {x : AV} (hi : ∀ it ∈ items, it.length = szI) (hf : fits items sz ko len = true) (hx : (piece items ko len).flatten[j]? = some x) : items.flatten[ko * sz + j]? = some x := by
  unfold piece at hx
  unfold fits at hf
  cases hk : Nat.beq ko 0 with
  | true =>
    rw [hk] at hx
    have := Nat.eq_of_beq_eq_true hk
    subst this
    simpa using flatten_take hx
  | false =>
    rw [hk] at hx hf
    simp only [cond_false, Bool.and_eq_true] at hx hf
    have h1 := flatten_drop (sz := szI) (ko := ko) hi (flatten_take hx)
    have h2 : szI = sz := by
      have h3 := Nat.eq_of_beq_eq_true hf.1
      cases items with
      | nil => simp at hx
      | cons i its => rw [← hi i (by simp), ← h3]; rfl
    rwa [h2] at h1
theorem piece_len {items : List (List AV)} {sz ko len : Nat} (hf : fits items sz ko len = true) : (piece items ko len).length = len := by
  unfold piece
  unfold fits at hf
  cases hk : Nat.beq ko 0 with
  | true =>
    rw [hk] at hf
    have := Nat.le_of_ble_eq_true hf
    simp only [cond_true, List.length_take]; omega
  | false =>
    rw [hk] at hf
    simp only [cond_false, Bool.and_eq_true] at hf
    have := Nat.le_of_ble_eq_true hf.2
    simp only [cond_false, List.length_take, List.length_drop]; omega
theorem piece_mem {items : List (List AV)} {ko len : Nat} {it : List AV} (h : it ∈ piece items ko len) : it ∈ items := by
  unfold piece at h
  cases hk : Nat.beq ko 0 <;> rw [hk] at h
  · exact List.mem_of_mem_drop (List.mem_of_mem_take h)
  · exact List.mem_of_mem_take h
theorem piece_all {items : List (List AV)} : piece items 0 items.length = items := by
  unfold piece; simp
/-- A row's cells, of a live row. -/
theorem HeapOk.rowAt {id : Nat} {e : TypeId} {items : List (List AV)} {oo : AO} (h : HeapOk P w F gb H n) (ho : H id = some oo) (hk : (∃ m, oo = .row m e items) ∨ oo = .frz e items) :
    (∀ it ∈ items, it.length = szOf P e) ∧ ((gb id = none ∧ items = []) ∨ ∃ g size cur fr, gb id = some (g, size) ∧ w.heap[g]? = some (.cells cur e fr) ∧ Cold size fr ∧ cur.size = size ∧ items.flatten.length ≤ size ∧ RepL w (Wr F gb H) gb items.flatten (cur.toList.take items.flatten.length) ∧
      (oo = .frz e items → ∀ o, o < items.flatten.length → ¬ Wr F gb H g o)) := by
  rcases h.live id oo ho with ⟨g, size, hg, hr⟩ | ⟨hg, m, e', he⟩
  · rcases hk with ⟨m, rfl⟩ | rfl
    · obtain ⟨h0, cur, fr, h1, hf, h2, h3, h4⟩ := hr
      exact ⟨h0, .inr ⟨g, size, cur, fr, hg, h1, hf, h2, h3, h4, fun h => by cases h⟩⟩
    · obtain ⟨h0, cur, fr, h1, hf, h2, h3, h4, h5⟩ := hr
      exact ⟨h0, .inr ⟨g, size, cur, fr, hg, h1, hf, h2, h3, h4, fun _ => h5⟩⟩
  · rcases hk with ⟨m', rfl⟩ | rfl
    · injection he with _ _ hi
      subst hi
      exact ⟨by simp, .inl ⟨hg, rfl⟩⟩
    · cases he
theorem cell_of {cur : Array Value} {e : TypeId} {fr : Nat × Nat} {g k : Nat} {u : Value} (h1 : w.heap[g]? = some (.cells cur e fr)) (hk : cur.toList[k]? = some u) : w.cell? ⟨g, k, none⟩ = some u := by
  simp only [World.cell?, h1]
  simpa using hk
theorem row_cell {items : List (List AV)} {cur : Array Value} {e : TypeId} {fr : Nat × Nat} {g k : Nat} {x : AV} (h1 : w.heap[g]? = some (.cells cur e fr)) (h4 : RepL w W gb items.flatten (cur.toList.take items.flatten.length)) (hx : items.flatten[k]? = some x) :
    ∃ u, w.cell? ⟨g, k, none⟩ = some u ∧ u.oneCell' = true ∧ Rep w W gb x u := by
  have hlt := (List.getElem?_eq_some_iff.1 hx).1
  have hl := h4.len
  obtain ⟨u, hu⟩ : ∃ u, (cur.toList.take items.flatten.length)[k]? = some u := ⟨_, List.getElem?_eq_getElem (by omega)⟩
  refine ⟨u, cell_of h1 ?_, h4.one u (List.mem_of_getElem? hu), h4.rep k x u hx hu⟩
  rwa [List.getElem?_take_of_lt hlt] at hu
/-- What a slice's things are by the heap, it reads. -/
theorem rep_its (h : HeapOk P w F gb H n) {x : AV} {v : Value} {items : List (List AV)} (hx : Rep w (Wr F gb H) gb x v) (hi : x.its? H = some items) : Reads w (Wr F gb H) gb items v := by
  have rowcase : ∀ {id sz ko len : Nat} {e : TypeId} {its : List (List AV)} {oo : AO}, x = .rw id sz ko len → H id = some oo → ((∃ m, oo = .row m e its) ∨ oo = .frz e its) → fits its sz ko len = true → items = piece its ko len → Reads w (Wr F gb H) gb items v := by
    intro id sz ko len e its oo hxe ho hk hf hp
    subst hxe hp
    obtain ⟨h0, hb⟩ := h.rowAt ho hk
    have hpl := piece_len hf
    cases hx with
    | rw _ _ _ _ g size c hg hs hc hm =>
      rcases hb with ⟨hn, _⟩ | ⟨g', size', cur, fr, hg', h1, _, h2, h3, h4, _⟩
      · rw [hn] at hg; cases hg
      · rw [hg'] at hg
        injection hg with hg
        injection hg with e1 e2
        subst e1 e2
        refine ⟨szOf P e, some ⟨g', ko * sz, none⟩, c, g', ko * sz, fun j => (w.cell? ⟨g', ko * sz + j, none⟩).getD undef, fun it hit => h0 it (piece_mem hit), by rw [hpl], by rw [hpl]; exact hc, hm, fun _ => rfl, fun j x hx => ?_⟩
        obtain ⟨u, hu, h1', hr⟩ := row_cell h1 h4 (flatten_piece h0 hf hx)
        simp only [hu, Option.getD_some]
        exact ⟨trivial, h1', hr⟩
    | rwz =>
      have h0' : piece its ko 0 = [] := List.eq_nil_of_length_eq_zero hpl
      rw [h0']
      exact (rep_sl_nil rfl (by simp)).reads
    | rwn =>
      have h0' : piece its 0 0 = [] := List.eq_nil_of_length_eq_zero hpl
      rw [h0']
      exact (rep_sl_nil rfl (by simp)).reads
  unfold AV.its? at hi
  split at hi
  · simp only [Option.some.injEq] at hi; subst hi; exact hx.reads
  · split at hi
    · rename_i m e its ho
      cases hf : fits its _ _ _ with
      | true => rw [hf] at hi; simp only [cond_true, Option.some.injEq] at hi; exact rowcase rfl ho (.inl ⟨m, rfl⟩) hf hi.symm
      | false => rw [hf] at hi; cases hi
    · rename_i e its ho
      cases hf : fits its _ _ _ with
      | true => rw [hf] at hi; simp only [cond_true, Option.some.injEq] at hi; exact rowcase rfl ho (.inr rfl) hf hi.symm
      | false => rw [hf] at hi; cases hi
    · cases hi
  · rename_i u
    have hu := rep_lit hx
    subst hu
    cases hn : isNilV v with
    | true =>
      rw [hn] at hi
      simp only [cond_true, Option.some.injEq] at hi
      subst hi
      unfold isNilV at hn
      split at hn
      · exact (rep_sl_nil rfl (by simp)).reads
      · cases hn
    | false => rw [hn] at hi; cases hi
  · cases hi
/-- A live row's prefix is nobody's to write, where the row may only be appended to. -/
theorem HeapOk.tip_cold {id g size : Nat} {e : TypeId} {items : List (List AV)} (h : HeapOk P w F gb H n) (ho : H id = some (.row false e items)) (hg : gb id = some (g, size)) {o : Nat} (hlt : o < items.flatten.length) : ¬ Wr F gb H g o := by
  rintro (hf | ⟨j, s, hj, hw⟩)
  · exact h.FX g o hf ⟨id, size, hg, by rw [ho]; trivial⟩
  · have := h.one j id g s size hj hg (wrO_exO hw) (by rw [ho]; trivial)
    subst this
    rw [ho] at hw
    exact absurd hw (Nat.not_le.2 hlt)
end
end Go.Proofs.Ytheanmfdfoefoaa.Hv
