/- Chapter 9's Cells: the order of versions; the program's sort, the document's insertion; by the walk over a heap. -/
import Derived.Test.YtmgpfckkafcllaaBcP
import Derived.Test.YtmgpfckkafcllaaHvRd
import Derived.Test.YtmgpfckkafcllaaHvSort
import Derived.Test.YtmgpfckkafcllaaBtOps
import Derived.Test.YtmgpfckkafcllaaRefCheck
import Derived.Shelf.Small.Strs
import Derived.Shelf.Lay
import Derived.Ground.NamesProg
import Derived.Ground.SlsfProg
set_option linter.unusedVariables false
set_option linter.unusedSimpArgs false
namespace Go.Proofs.Ytmgpfckkafcllaa
open Go Go.RowKit Go.Sort Go.Shelf Go.Lib Hv
shelf_lay Lays.n106 Nm 106 at Try as Try.laysCompare
shelf_lay_g SlLaysF0.n6 Slsf 6 at Try 36 as Try.sortC
theorem compare_slt : ∀ (a b : List UInt8), Lib.compareBytes a b = if a = b then 0 else if a < b then -1 else 1 := by
  intro a
  induction a with
  | nil => intro b; cases b with
    | nil => simp [Lib.compareBytes]
    | cons y b => simp [Lib.compareBytes]
  | cons x a ih =>
    intro b
    cases b with
    | nil => simp [Lib.compareBytes]
    | cons y b =>
      unfold Lib.compareBytes
      rw [ih b]
      by_cases h1 : x < y
      · have hne : x ≠ y := fun e => by subst e; exact absurd h1 (by simp)
        simp [h1, hne, List.cons_lt_cons_iff]
      · by_cases h2 : y < x
        · have hne : x ≠ y := fun e => by subst e; exact absurd h2 (by simp)
          simp [h1, h2, hne, List.cons_lt_cons_iff]
        · have he : x = y := by
            apply UInt8.le_antisymm <;> (rw [← UInt8.not_lt]; assumption)
          subst he
          simp
def cmpS (a b : ByteArray) : Int := if a.toList = b.toList then 0 else if slt a b then -1 else 1
theorem Compare_calls (a b : ByteArray) (w : World) : Calls Try.prog 38 #[.string a, .string b] w fun e w' => e = .returned (.int .i64 (cmpS a b)) ∧ w = w' :=
  (Any.strings_Compare Try.laysCompare a b w).mono fun e w' ⟨he, hw⟩ => by
    refine ⟨?_, hw.symm⟩
    rw [he, compare_slt]
    unfold cmpS
    rw [← Lib.toList_data, ← Lib.toList_data]
    congr 2
    by_cases h : a.toList = b.toList
    · simp [h]
    · rw [if_neg h, if_neg h]
      by_cases h2 : a.toList < b.toList
      · rw [if_pos h2, if_pos ((slt_iff _ _).2 h2)]
      · rw [if_neg h2, if_neg (fun h' => h2 ((slt_iff _ _).1 h'))]
theorem less_cases (a b : CellD) : (a.key.toList ≠ b.key.toList ∧ lessV a b = slt a.key b.key) ∨ (a.key.toList = b.key.toList ∧ b.seq < a.seq ∧ lessV a b = true) ∨ (a.key.toList = b.key.toList ∧ a.seq < b.seq ∧ lessV a b = false) ∨
    (a.key.toList = b.key.toList ∧ a.seq = b.seq ∧ b.kind < a.kind ∧ lessV a b = true) ∨ (a.key.toList = b.key.toList ∧ a.seq = b.seq ∧ a.kind ≤ b.kind ∧ lessV a b = false) := by
  unfold lessV keqB
  by_cases h : a.key.toList = b.key.toList
  · have h' : (a.key.toList == b.key.toList) = true := by simpa using h
    rw [h', if_pos rfl]
    right
    rcases Int.lt_trichotomy a.seq b.seq with h1 | h1 | h1
    · exact .inr (.inl ⟨h, h1, by rw [if_neg (by omega)]; simp; omega⟩)
    · right; right
      by_cases h2 : b.kind < a.kind
      · exact .inl ⟨h, h1, h2, by rw [if_pos h1]; simpa using h2⟩
      · exact .inr ⟨h, h1, by omega, by rw [if_pos h1]; simp; omega⟩
    · exact .inl ⟨h, h1, by rw [if_neg (by omega)]; simpa using h1⟩
  · have h' : (a.key.toList == b.key.toList) = false := by simpa using h
    rw [h', if_neg (by simp)]
    exact .inl ⟨h, rfl⟩
theorem two_grow (w : World) (o1 o2 : Obj) : (w.alloc o1).alloc o2 = grow w (#[o1] ++ #[o2]) := by rw [alloc_eq_grow, alloc_eq_grow, grow_grow]
theorem growBelow (w : World) (os : Array Obj) : Below w.heap.size w (grow w os) := ⟨rfl, rfl, rfl, by simp [grow], fun b hb => by simp [grow, Array.getElem?_append_left hb]⟩
set_option maxRecDepth 100000 in
set_option maxHeartbeats 1000000 in
theorem Less_calls (a b : CellD) (w : World) : Calls Try.prog 20 #[.agg #[.string a.key, .int .i64 a.seq, .int .i64 a.kind], .agg #[.string b.key, .int .i64 b.seq, .int .i64 b.kind]] w fun e w' => e = .returned (.bool (lessV a b)) ∧ ∃ os, w' = grow w os := by
  have hc := less_cases a b
  have hcs : (a.key.toList ≠ b.key.toList → cmpS a.key b.key = (if slt a.key b.key then -1 else 1)) ∧ (a.key.toList = b.key.toList → cmpS a.key b.key = 0) := ⟨fun h => by unfold cmpS; rw [if_neg h], fun h => by unfold cmpS; rw [if_pos h]⟩
  have KC := Lib.hid (fun W => Compare_calls a.key b.key W)
  generalize lessV a b = r at *
  generalize cmpS a.key b.key = z at *
  obtain ⟨key, seq, kind, val⟩ := a
  obtain ⟨key2, seq2, kind2, val2⟩ := b
  simp only at hc hcs KC
  go_enter Try.func20, Try.ntmps20
  rcases hc with ⟨h1, rfl⟩ | ⟨h1, h2, rfl⟩ | ⟨h1, h2, rfl⟩ | ⟨h1, rfl, h3, rfl⟩ | ⟨h1, rfl, h3, rfl⟩
  · have hz := hcs.1 h1
    clear hcs h1
    rcases hs : slt key key2 with _ | _
    · rw [hs] at hz
      obtain rfl : z = 1 := hz
      go_wp2_with (go_at_call 38; refine (KC.out _).mono ?_; rintro e w1 ⟨rfl, rfl⟩)
      go_ret
      exact ⟨rfl, ⟨_, two_grow _ _ _⟩⟩
    · rw [hs] at hz
      obtain rfl : z = -1 := hz
      go_wp2_with (go_at_call 38; refine (KC.out _).mono ?_; rintro e w1 ⟨rfl, rfl⟩)
      go_ret
      exact ⟨rfl, ⟨_, two_grow _ _ _⟩⟩
  all_goals
    obtain rfl := hcs.2 h1
    clear hcs h1
  · have h2'' : seq > seq2 := h2
    go_wp2_with (go_at_call 38; refine (KC.out _).mono ?_; rintro e w1 ⟨rfl, rfl⟩)
    go_ret
    exact ⟨rfl, ⟨_, two_grow _ _ _⟩⟩
  · have h2' : (seq == seq2) = false := by simp; omega
    have h2''' : decide (seq2 < seq) = false := by simp; omega
    go_wp2_with (go_at_call 38; refine (KC.out _).mono ?_; rintro e w1 ⟨rfl, rfl⟩)
    go_ret
    exact ⟨rfl, ⟨_, two_grow _ _ _⟩⟩
  · go_wp2_with (go_at_call 38; refine (KC.out _).mono ?_; rintro e w1 ⟨rfl, rfl⟩)
    go_ret
    exact ⟨rfl, ⟨_, two_grow _ _ _⟩⟩
  · have h3' : ¬ kind2 < kind := by omega
    go_wp2_with (go_at_call 38; refine (KC.out _).mono ?_; rintro e w1 ⟨rfl, rfl⟩)
    go_ret
    exact ⟨ret_bool (by simp; omega), ⟨_, two_grow _ _ _⟩⟩

def cellH (c : CellD) : List AV := [.lit (.string c.key), .lit (.int .i64 c.seq), .lit (.int .i64 c.kind), .lit (.string c.val)]
theorem cellH_enc (c : CellD) : encA cellC c = cellH c := rfl
def verA (c : CellD) : AV := .agg [.lit (.string c.key), .lit (.int .i64 c.seq), .lit (.int .i64 c.kind)]
theorem less_h (a b : CellD) : Hv.ACalls Try.prog 20 [verA a, verA b] (.lit (.bool (lessV a b))) :=
  acalls_lit (us := [.agg #[.string a.key, .int .i64 a.seq, .int .i64 a.kind], .agg #[.string b.key, .int .i64 b.seq, .int .i64 b.kind]]) (by kernel_rfl) rfl fun w => (Less_calls a b w).mono fun e w' ⟨h1, os, h2⟩ => ⟨h1, by rw [h2]; exact growBelow w os⟩
/-- ops as an argument. -/
theorem opI_lit (o : OpD) : opI o = (opC o).map AV.lit := rfl
theorem Check_h (seq : Int) (l : List OpD) : Hv.ACalls Try.prog 15 [.lit (.int .i64 seq), .sl (l.map opI)] (.lit (.int .i64 (checkB seq l))) := by
  refine ⟨by kernel_rfl, fun w W gb vs hW hl hr => ?_⟩
  match vs, hl, hr with
  | [v, u], _, hr =>
    obtain rfl := rep_lit (hr 0 _ _ rfl rfl)
    exact (Check_calls seq l u w (rd_of_rep opI_lit opC_len (hr 1 _ _ rfl rfl))).mono fun e w' h => ⟨_, h.1, .lit _, h.2⟩
theorem DocCheck_h (seq : Int) (l : List OpD) : Hv.ACalls Try.prog 25 [.lit (.int .i64 seq), .sl (l.map opI)] (.lit (.int .i64 (checkB seq l))) := by
  refine ⟨by kernel_rfl, fun w W gb vs hW hl hr => ?_⟩
  match vs, hl, hr with
  | [v, u], _, hr =>
    obtain rfl := rep_lit (hr 0 _ _ rfl rfl)
    exact (DocCheck_calls seq l u w (rd_of_rep opI_lit opC_len (hr 1 _ _ rfl rfl))).mono fun e w' h => ⟨_, h.1, .lit _, h.2⟩
/-! ### the sort's order -/
def cmpC (a b : CellD) : Int := if lessV a b then -1 else if lessV b a then 1 else 0
theorem ltC (x y : CellD) : ltOf cmpC x y = lessV x y := by
  unfold ltOf cmpC
  cases h1 : lessV x y with
  | true => simp
  | false => cases h2 : lessV y x <;> simp
theorem swoC : SWO (ltOf cmpC) where
  irrefl x := by rw [ltC]; exact less_irrefl x
  trans x y z h1 h2 := by rw [ltC] at *; exact less_trans h1 h2
  ntrans x y z h1 h2 := by
    rw [ltC] at *
    rw [← Bool.not_eq_true] at *
    intro h
    rcases less_tri x y with a | a | a
    · exact h1 a
    · have e : x.key = y.key ∧ x.seq = y.seq ∧ x.kind = y.kind := by
        unfold verEq keqB at a
        simp only [Bool.and_eq_true, beq_iff_eq] at a
        exact ⟨toList_inj a.1.1, a.1.2, a.2⟩
      refine h2 ?_
      rw [less_iff] at h ⊢
      rw [← e.1, ← e.2.1, ← e.2.2]; exact h
    · exact h2 (less_trans a h)
theorem grown_a (W : World) (a b : Array Value) (s t : TypeId) (os : Array Obj) {j : Nat} {u : Value} (h : a[j]? = some u) : (grow ((W.alloc (.cells a s)).alloc (.cells b t)) os).cell? ⟨W.heap.size, j, none⟩ = some u := by
  rw [alloc_eq_grow, alloc_eq_grow, grow_grow, grow_grow]
  simp [World.cell?, grow, Array.getElem?_append, h]
theorem grown_b (W : World) (a b : Array Value) (s t : TypeId) (os : Array Obj) {j : Nat} {u : Value} (h : b[j]? = some u) : (grow ((W.alloc (.cells a s)).alloc (.cells b t)) os).cell? ⟨W.heap.size + 1, j, none⟩ = some u := by
  rw [alloc_eq_grow, alloc_eq_grow, grow_grow, grow_grow]
  have e : ¬ W.heap.size + 1 < W.heap.size := by omega
  simp [World.cell?, grow, Array.getElem?_append, h, e]
set_option maxHeartbeats 1000000 in
theorem cmpCells_c (x y : CellD) (W : World) : Calls Try.prog 37 #[.agg (cellC x).toArray, .agg (cellC y).toArray] W fun e w' => e = .returned (.int .i64 (cmpC x y)) ∧ ∃ q os', w' = grow (W.drewN q) os' := by
  have K1 := Lib.hid (fun W => Less_calls x y W)
  have K2 := Lib.hid (fun W => Less_calls y x W)
  obtain ⟨z, hz⟩ : ∃ z, cmpC x y = z := ⟨_, rfl⟩
  have hz' := hz
  unfold cmpC at hz'
  rw [hz]
  clear hz
  unfold cellC
  cases h1 : lessV x y with
  | true =>
    rw [h1] at hz' K1
    simp only [if_true] at hz'
    subst hz'
    go_enter Try.func37, Try.ntmps37
    go_wp2_with (go_at_call 20; refine (K1.out _).mono ?_; rintro e w' ⟨rfl, os, rfl⟩)
    go_ret
    exact ⟨rfl, 0, _, by rw [alloc_eq_grow, alloc_eq_grow, grow_grow, grow_grow]; rfl⟩
  | false =>
    rw [h1] at hz' K1
    cases h2 : lessV y x with
    | true =>
      rw [h2] at hz' K2
      simp only [if_true, Bool.false_eq_true, if_false] at hz'
      subst hz'
      go_enter Try.func37, Try.ntmps37
      go_wp2_with (fail)
      go_at_call 20
      refine (K1.out _).mono ?_
      rintro e w' ⟨rfl, os, rfl⟩
      have a0 := grown_a W (cellC x).toArray (cellC y).toArray 48 48 os (j := 0) rfl
      have a1 := grown_a W (cellC x).toArray (cellC y).toArray 48 48 os (j := 1) rfl
      have a2 := grown_a W (cellC x).toArray (cellC y).toArray 48 48 os (j := 2) rfl
      have b0 := grown_b W (cellC x).toArray (cellC y).toArray 48 48 os (j := 0) rfl
      have b1 := grown_b W (cellC x).toArray (cellC y).toArray 48 48 os (j := 1) rfl
      have b2 := grown_b W (cellC x).toArray (cellC y).toArray 48 48 os (j := 2) rfl
      have bw : ∃ os', grow ((W.alloc (.cells (cellC x).toArray 48)).alloc (.cells (cellC y).toArray 48)) os = grow W os' := ⟨_, by rw [alloc_eq_grow, alloc_eq_grow, grow_grow, grow_grow]⟩
      simp only [cellC] at a0 a1 a2 b0 b1 b2 bw
      generalize grow ((W.alloc _).alloc _) os = w5 at *
      go_wp2_with (fail)
      go_at_call 20
      refine (K2.out _).mono ?_
      rintro e w' ⟨rfl, os2, rfl⟩
      go_wp2_with (fail)
      go_ret
      obtain ⟨os3, rfl⟩ := bw
      exact ⟨rfl, 0, _, by rw [grow_grow]; rfl⟩
    | false =>
      rw [h2] at hz' K2
      simp only [Bool.false_eq_true, if_false] at hz'
      subst hz'
      go_enter Try.func37, Try.ntmps37
      go_wp2_with (fail)
      go_at_call 20
      refine (K1.out _).mono ?_
      rintro e w' ⟨rfl, os, rfl⟩
      have a0 := grown_a W (cellC x).toArray (cellC y).toArray 48 48 os (j := 0) rfl
      have a1 := grown_a W (cellC x).toArray (cellC y).toArray 48 48 os (j := 1) rfl
      have a2 := grown_a W (cellC x).toArray (cellC y).toArray 48 48 os (j := 2) rfl
      have b0 := grown_b W (cellC x).toArray (cellC y).toArray 48 48 os (j := 0) rfl
      have b1 := grown_b W (cellC x).toArray (cellC y).toArray 48 48 os (j := 1) rfl
      have b2 := grown_b W (cellC x).toArray (cellC y).toArray 48 48 os (j := 2) rfl
      have bw : ∃ os', grow ((W.alloc (.cells (cellC x).toArray 48)).alloc (.cells (cellC y).toArray 48)) os = grow W os' := ⟨_, by rw [alloc_eq_grow, alloc_eq_grow, grow_grow, grow_grow]⟩
      simp only [cellC] at a0 a1 a2 b0 b1 b2 bw
      generalize grow ((W.alloc _).alloc _) os = w5 at *
      go_wp2_with (fail)
      go_at_call 20
      refine (K2.out _).mono ?_
      rintro e w' ⟨rfl, os2, rfl⟩
      go_wp2_with (fail)
      go_ret
      obtain ⟨os3, rfl⟩ := bw
      exact ⟨rfl, 0, _, by rw [grow_grow]; rfl⟩
theorem szOf_cell : szOf Try.prog 48 = 4 := by unfold szOf; kernel_rfl
theorem sortC_h {H : Hp} {n id : Nat} {l : List CellD} (ho : H id = some (.row true 48 (l.map cellH))) (hl : l.length ≤ 1000000) :
    HCalls Try.prog 36 [.rw id 4 0 l.length, .fn 37 []] H n fun r H' n' => r = .tup [] ∧ n' = n ∧ ∃ l' : List CellD, l'.Perm l ∧ l'.Pairwise (fun x y => lessV y x = false) ∧ H' = upd H id (some (.row true 48 (l'.map cellH))) :=
  (sortFunc_hc Try.sortC 4 Try.isAgg48 Try.sizeOf48 cellC cellC_len cellC_one cmpC swoC 37 (by kernel_rfl) (enters_of Try.func37 (by kernel_rfl) rfl) cmpCells_c (n := n) ho szOf_cell (by omega)).mono
    fun r H' n' ⟨h1, h2, l', h3, h4, h5⟩ => ⟨h1, h2, l', h3, h4.imp fun {x y} h => by rw [ltC] at h; exact h, h5⟩
end Go.Proofs.Ytmgpfckkafcllaa
