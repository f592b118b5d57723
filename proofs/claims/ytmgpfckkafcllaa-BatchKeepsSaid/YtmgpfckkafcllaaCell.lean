/- Versions and their values (cells): order, sorted lists, what is kept, pieces, what is shown. Plain: no program in sight. -/
import Derived.Test.YtmgpfckkafcllaaStr
namespace Go.Proofs.Ytmgpfckkafcllaa
open Go Go.RowKit

structure CellD where
  key : ByteArray
  seq : Int
  kind : Int
  val : ByteArray
instance : Inhabited CellD := ⟨⟨⟨#[]⟩, 0, 0, ⟨#[]⟩⟩⟩
def cellC (c : CellD) : List Value := [.string c.key, .int .i64 c.seq, .int .i64 c.kind, .string c.val]
theorem cellC_len (c : CellD) : (cellC c).length = 4 := rfl
theorem cellC_one (c : CellD) : ∀ u ∈ cellC c, u.oneCell' = true := by
  intro u hu
  simp only [cellC, List.mem_cons, List.not_mem_nil, or_false] at hu
  rcases hu with rfl | rfl | rfl | rfl <;> rfl
def maxSeq : Int := 72057594037927935
def keqB (a b : CellD) : Bool := a.key.toList == b.key.toList
def rightV (c : CellD) : Bool := !c.key.toList.isEmpty && decide ((c.key.size : Int) ≤ 64) && decide (0 ≤ c.seq) && decide (c.seq ≤ maxSeq) && (c.kind == 0 || c.kind == 1)
def lessV (a b : CellD) : Bool := if keqB a b then (if a.seq = b.seq then decide (b.kind < a.kind) else decide (b.seq < a.seq)) else slt a.key b.key
def sortedL : List CellD → Bool
  | a :: b :: l => lessV a b && sortedL (b :: l)
  | _ => true
def rightL (l : List CellD) : Bool := l.all rightV && sortedL l
/-- The same version; the same cell. -/
def verEq (a b : CellD) : Bool := keqB a b && a.seq == b.seq && a.kind == b.kind
def cellEq (a b : CellD) : Bool := verEq a b && a.val.toList == b.val.toList
def sameC : List CellD → List CellD → Bool
  | [], [] => true
  | a :: l, b :: m => cellEq a b && sameC l m
  | _, _ => false
theorem cellEq_iff {a b : CellD} : cellEq a b = true ↔ a = b := by
  constructor
  · intro h
    simp only [cellEq, verEq, keqB, Bool.and_eq_true, beq_iff_eq] at h
    obtain ⟨⟨⟨h1, h2⟩, h3⟩, h4⟩ := h
    cases a; cases b
    simp only at h1 h2 h3 h4
    rw [toList_inj h1, h2, h3, toList_inj h4]
  · rintro rfl
    simp [cellEq, verEq, keqB]
theorem sameC_iff : ∀ {l m : List CellD}, sameC l m = true ↔ l = m := by
  intro l
  induction l with
  | nil => intro m; cases m <;> simp [sameC]
  | cons a l ih => intro m; cases m with
    | nil => simp [sameC]
    | cons b m => simp only [sameC, Bool.and_eq_true, cellEq_iff, ih, List.cons.injEq]
theorem sameC_refl (l : List CellD) : sameC l l = true := sameC_iff.2 rfl

/-! ### the order of versions -/
theorem keqB_iff {a b : CellD} : keqB a b = true ↔ a.key = b.key := by
  unfold keqB; rw [beq_iff_eq]; exact ⟨toList_inj, fun h => by rw [h]⟩
theorem keqB_no {a b : CellD} : keqB a b = false ↔ a.key ≠ b.key := by
  rw [← Bool.not_eq_true, keqB_iff]
theorem less_iff {a b : CellD} : lessV a b = true ↔ (slt a.key b.key = true) ∨ (a.key = b.key ∧ (b.seq < a.seq ∨ (a.seq = b.seq ∧ b.kind < a.kind))) := by
  unfold lessV
  by_cases h : keqB a b = true
  · rw [if_pos h]
    have he := keqB_iff.1 h
    constructor
    · intro h1
      refine .inr ⟨he, ?_⟩
      split at h1
      · rename_i e; exact .inr ⟨e, by simpa using h1⟩
      · exact .inl (by simpa using h1)
    · rintro (h1 | ⟨_, h1 | ⟨h1, h2⟩⟩)
      · exact absurd (by rw [he]) (slt_ne h1)
      · rw [if_neg (by omega)]; simpa using h1
      · rw [if_pos h1]; simpa using h2
  · rw [if_neg h]
    have he : a.key ≠ b.key := fun e => h (keqB_iff.2 e)
    exact ⟨.inl, fun h1 => h1.elim id fun h2 => absurd h2.1 he⟩
theorem less_trans {a b c : CellD} (h : lessV a b = true) (h' : lessV b c = true) : lessV a c = true := by
  rw [less_iff] at *
  rcases h with h | ⟨e, h⟩
  · rcases h' with h' | ⟨e', h'⟩
    · exact .inl (slt_trans h h')
    · exact .inl (by rw [← e']; exact h)
  · rcases h' with h' | ⟨e', h'⟩
    · exact .inl (by rw [e]; exact h')
    · exact .inr ⟨e.trans e', by omega⟩
theorem less_irrefl (a : CellD) : lessV a a = false := by
  rw [← Bool.not_eq_true, less_iff]
  rintro (h | ⟨_, h⟩)
  · rw [slt_irrefl] at h; cases h
  · omega
theorem less_asym {a b : CellD} (h : lessV a b = true) : lessV b a = false := by
  rcases h' : lessV b a with _ | _
  · rfl
  · have := less_trans h h'; rw [less_irrefl] at this; cases this
theorem less_tri (a b : CellD) : lessV a b = true ∨ verEq a b = true ∨ lessV b a = true := by
  rw [less_iff, less_iff]
  rcases slt_tri a.key b.key with h | h | h
  · exact .inl (.inl h)
  · have he := toList_inj h
    by_cases h1 : b.seq < a.seq
    · exact .inl (.inr ⟨he, .inl h1⟩)
    · by_cases h2 : a.seq < b.seq
      · exact .inr (.inr (.inr ⟨he.symm, .inl h2⟩))
      · by_cases h3 : b.kind < a.kind
        · exact .inl (.inr ⟨he, .inr ⟨by omega, h3⟩⟩)
        · by_cases h4 : a.kind < b.kind
          · exact .inr (.inr (.inr ⟨he.symm, .inr ⟨by omega, h4⟩⟩))
          · refine .inr (.inl ?_)
            simp only [verEq, Bool.and_eq_true, beq_iff_eq]
            exact ⟨⟨keqB_iff.2 he, by omega⟩, by omega⟩
  · exact .inr (.inr (.inl h))
theorem sorted_pair : ∀ {l : List CellD}, sortedL l = true ↔ l.Pairwise (fun a b => lessV a b = true) := by
  intro l
  induction l with
  | nil => simp [sortedL]
  | cons a l ih =>
    cases l with
    | nil => simp [sortedL]
    | cons b l =>
      rw [sortedL, Bool.and_eq_true, ih]
      constructor
      · intro ⟨h, hp⟩
        refine List.pairwise_cons.2 ⟨fun x hx => ?_, hp⟩
        rcases List.mem_cons.1 hx with rfl | hx
        · exact h
        · exact less_trans h ((List.pairwise_cons.1 hp).1 x hx)
      · intro hp
        exact ⟨(List.pairwise_cons.1 hp).1 b (by simp), (List.pairwise_cons.1 hp).2⟩
theorem sorted_iff (l : List CellD) : sortedL l = true ↔ ∀ k (h : k + 1 < l.length), lessV (l[k]'(by omega)) l[k + 1] = true := by
  induction l with
  | nil => simp [sortedL]
  | cons a l ih =>
    cases l with
    | nil => simp [sortedL]
    | cons b l =>
      rw [sortedL, Bool.and_eq_true, ih]
      constructor
      · intro ⟨h1, h2⟩ k hk
        cases k with
        | zero => simpa using h1
        | succ k => exact h2 k (by simpa using hk)
      · intro h
        exact ⟨by simpa using h 0 (by simp), fun k hk => h (k + 1) (by simpa using hk)⟩
end Go.Proofs.Ytmgpfckkafcllaa
