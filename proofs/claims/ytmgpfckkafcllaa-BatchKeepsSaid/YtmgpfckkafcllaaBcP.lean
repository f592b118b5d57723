/- Chapter 9's Cells: the versions that changes make, in their order; the plain law, no program in sight. -/
import Derived.Test.YtmgpfckkafcllaaBatch
import Derived.Test.YtmgpfckkafcllaaCell
set_option linter.unusedVariables false
namespace Go.Proofs.Ytmgpfckkafcllaa
open Go Go.RowKit
def aheadC (c x : CellD) : Bool := lessV x c
def placeL (l : List CellD) (c : CellD) : List CellD := l.takeWhile (aheadC c) ++ c :: l.dropWhile (aheadC c)
def freshB (out : List CellD) (c : CellD) : Bool := match out.dropWhile (aheadC c) with | [] => true | y :: _ => !verEq y c
theorem place_mem {l : List CellD} {c x : CellD} : x ∈ placeL l c ↔ x = c ∨ x ∈ l := by
  unfold placeL
  have h := List.takeWhile_append_dropWhile (p := aheadC c) (l := l)
  constructor
  · intro hx
    rcases List.mem_append.1 hx with h1 | h1
    · exact .inr ((List.takeWhile_sublist _).subset h1)
    · rcases List.mem_cons.1 h1 with h1 | h1
      · exact .inl h1
      · exact .inr ((List.dropWhile_sublist _).subset h1)
  · rintro (rfl | hx)
    · simp
    · rw [← h] at hx
      rcases List.mem_append.1 hx with h1 | h1
      · simp [h1]
      · simp [h1]
theorem place_len (l : List CellD) (c : CellD) : (placeL l c).length = l.length + 1 := by
  unfold placeL
  have h := congrArg List.length (List.takeWhile_append_dropWhile (p := aheadC c) (l := l))
  simp only [List.length_append, List.length_cons] at h ⊢
  omega
theorem place_sorted {l : List CellD} {c : CellD} (hs : sortedL l = true) (hf : freshB l c = true) : sortedL (placeL l c) = true := by
  have hp := sorted_pair.1 hs
  rw [← List.takeWhile_append_dropWhile (p := aheadC c) (l := l)] at hp
  have hp' := List.pairwise_append.1 hp
  have htw : ∀ x ∈ l.takeWhile (aheadC c), lessV x c = true := fun x hx => by
    have h := List.all_takeWhile (l := l) (p := aheadC c)
    exact List.all_eq_true.1 h x hx
  have hdw : ∀ y ∈ l.dropWhile (aheadC c), lessV c y = true := by
    unfold freshB at hf
    rcases hd : l.dropWhile (aheadC c) with _ | ⟨y, d⟩
    · intro y hy; simp at hy
    · rw [hd] at hf hp'
      have hy0 : lessV y c = false := by
        have := List.head?_dropWhile_not (aheadC c) l
        rw [hd] at this
        simpa [aheadC] using this
      have hv : verEq y c = false := by simpa using hf
      have hcy : lessV c y = true := by
        rcases less_tri y c with h | h | h
        · rw [h] at hy0; cases hy0
        · rw [h] at hv; cases hv
        · exact h
      intro z hz
      rcases List.mem_cons.1 hz with rfl | hz
      · exact hcy
      · exact less_trans hcy ((List.pairwise_cons.1 hp'.2.1).1 z hz)
  unfold placeL
  rw [sorted_pair, List.pairwise_append]
  refine ⟨hp'.1, List.pairwise_cons.2 ⟨hdw, hp'.2.1⟩, fun a ha b hb => ?_⟩
  rcases List.mem_cons.1 hb with rfl | hb
  · exact htw a ha
  · exact hp'.2.2 a ha b hb

def cellO (seq : Int) (i : Nat) (o : OpD) : CellD := ⟨o.key, seq + i, o.kind, o.val⟩
def cellsB (seq : Int) (ops : List OpD) : List CellD := ops.mapIdx (cellO seq)
def docCells (seq : Int) (ops : List OpD) : List CellD := (cellsB seq ops).foldl placeL []
theorem place_perm (l : List CellD) (c : CellD) : (placeL l c).Perm (c :: l) := by
  unfold placeL
  conv => rhs; rw [← List.takeWhile_append_dropWhile (p := aheadC c) (l := l)]
  exact List.perm_middle
theorem fresh_of {l : List CellD} {c : CellD} (h : ∀ x ∈ l, x.seq ≠ c.seq) : freshB l c = true := by
  unfold freshB
  split
  · rfl
  · rename_i y d hd
    have hy : y ∈ l := (List.dropWhile_sublist _).subset (by rw [hd]; exact List.mem_cons_self)
    have hne := h y hy
    unfold verEq
    have : (y.seq == c.seq) = false := by simpa using hne
    rw [this]; simp
theorem foldl_place : ∀ (cs l : List CellD), sortedL l = true → (∀ x ∈ l, ∀ y ∈ cs, x.seq ≠ y.seq) → cs.Pairwise (fun a b => a.seq ≠ b.seq) → sortedL (cs.foldl placeL l) = true ∧ (cs.foldl placeL l).Perm (cs ++ l)
  | [], l, hs, _, _ => ⟨hs, List.Perm.refl _⟩
  | c :: cs, l, hs, hd, hp => by
    have hc := List.pairwise_cons.1 hp
    have hs' := place_sorted hs (fresh_of fun x hx => hd x hx c List.mem_cons_self)
    obtain ⟨h1, h2⟩ := foldl_place cs (placeL l c) hs' (fun x hx y hy => by
      rcases place_mem.1 hx with rfl | hx
      · exact hc.1 y hy
      · exact hd x hx y (List.mem_cons_of_mem _ hy)) hc.2
    refine ⟨h1, h2.trans ?_⟩
    refine ((place_perm l c).append_left cs).trans ?_
    exact List.perm_middle
theorem cellsB_len (seq : Int) (ops : List OpD) : (cellsB seq ops).length = ops.length := by unfold cellsB; exact List.length_mapIdx
theorem cellsB_at {seq : Int} {ops : List OpD} {k : Nat} {o : OpD} (h : ops[k]? = some o) : (cellsB seq ops)[k]? = some (cellO seq k o) := by
  unfold cellsB; rw [List.getElem?_mapIdx, h]; rfl
theorem cellsB_seqs (seq : Int) (ops : List OpD) : (cellsB seq ops).Pairwise (fun a b => a.seq ≠ b.seq) := by
  unfold cellsB
  rw [List.pairwise_iff_getElem]
  intro i j hi hj hij
  rw [List.getElem_mapIdx, List.getElem_mapIdx]
  show seq + i ≠ seq + j
  omega
theorem docCells_spec (seq : Int) (ops : List OpD) : sortedL (docCells seq ops) = true ∧ (docCells seq ops).Perm (cellsB seq ops) := by
  have := foldl_place (cellsB seq ops) [] rfl (fun x hx => absurd hx List.not_mem_nil) (cellsB_seqs seq ops)
  rw [List.append_nil] at this
  exact this
theorem docCells_len (seq : Int) (ops : List OpD) : (docCells seq ops).length = ops.length := by rw [(docCells_spec seq ops).2.length_eq, cellsB_len]
/-- What is in the order of versions, and has the versions of the changes, is the document's. -/
theorem docCells_eq {seq : Int} {ops : List OpD} {l : List CellD} (hp : l.Perm (cellsB seq ops)) (hs : l.Pairwise fun x y => lessV y x = false) : l = docCells seq ops := by
  obtain ⟨h1, h2⟩ := docCells_spec seq ops
  have hseq : l.Pairwise (fun a b => a.seq ≠ b.seq) := (hp.pairwise_iff (fun {a b} h => Ne.symm h)).2 (cellsB_seqs seq ops)
  have hl : l.Pairwise (fun a b => lessV a b = true) := by
    refine (hs.and hseq).imp ?_
    rintro a b ⟨h, hn⟩
    rcases less_tri a b with h' | h' | h'
    · exact h'
    · unfold verEq at h'
      simp only [Bool.and_eq_true, beq_iff_eq] at h'
      exact absurd h'.1.2 hn
    · rw [h'] at h; cases h
  have hd := sorted_pair.1 h1
  exact (hp.trans h2.symm).eq_of_pairwise (fun a b _ _ h h' => by have := less_asym h; rw [h'] at this; cases this) hl hd
theorem docCells_take {seq : Int} {ops : List OpD} {k : Nat} {o : OpD} (h : ops[k]? = some o) : ((cellsB seq ops).take (k + 1)).foldl placeL [] = placeL (((cellsB seq ops).take k).foldl placeL []) (cellO seq k o) := by
  rw [List.take_add_one, cellsB_at h, List.foldl_append]; rfl
/-- How many lie ahead. -/
def awN (c : CellD) (l : List CellD) : Nat := (l.takeWhile (aheadC c)).length
theorem aw_le (c : CellD) (l : List CellD) : awN c l ≤ l.length := (List.takeWhile_sublist _).length_le
theorem aw_take (c : CellD) : ∀ (l : List CellD), l.takeWhile (aheadC c) = l.take (awN c l) ∧ l.dropWhile (aheadC c) = l.drop (awN c l)
  | [] => ⟨rfl, rfl⟩
  | a :: l => by
    obtain ⟨h1, h2⟩ := aw_take c l
    unfold awN at *
    rw [List.takeWhile_cons, List.dropWhile_cons]
    cases aheadC c a with
    | true =>
      refine ⟨?_, ?_⟩
      · show a :: _ = (a :: l).take ((l.takeWhile (aheadC c)).length + 1)
        rw [List.take_succ_cons, ← h1]
      · show _ = (a :: l).drop ((l.takeWhile (aheadC c)).length + 1)
        rw [List.drop_succ_cons, ← h2]; rfl
    | false => exact ⟨rfl, rfl⟩
theorem aw_next {c : CellD} : ∀ {l : List CellD} {t : Nat} {x : CellD}, t ≤ awN c l → l[t]? = some x → (lessV x c = true ↔ t < awN c l)
  | [], _, _, _, h => by simp at h
  | a :: l, t, x, ht, hx => by
    unfold awN at *
    rw [List.takeWhile_cons] at ht ⊢
    cases ha : aheadC c a with
    | true =>
      rw [ha] at ht
      cases t with
      | zero =>
        have : a = x := by simpa using hx
        subst this
        exact ⟨fun _ => Nat.succ_pos _, fun _ => ha⟩
      | succ t =>
        have hx' : l[t]? = some x := by simpa using hx
        have := aw_next (c := c) (l := l) (Nat.le_of_succ_le_succ ht) hx'
        exact ⟨fun h => Nat.succ_lt_succ (this.1 h), fun h => this.2 (Nat.lt_of_succ_lt_succ h)⟩
    | false =>
      rw [ha] at ht
      have ht : t ≤ 0 := ht
      obtain rfl : t = 0 := by omega
      have : a = x := by simpa using hx
      subst this
      exact ⟨fun h => absurd (h.symm.trans ha) (by simp), fun h => absurd h (Nat.lt_irrefl 0)⟩
end Go.Proofs.Ytmgpfckkafcllaa
