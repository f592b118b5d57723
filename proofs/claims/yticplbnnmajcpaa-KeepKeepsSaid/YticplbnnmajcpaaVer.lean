/- Versions: ikey.Check, Less; the document's Right, Less. -/
import Derived.Test.YticplbnnmajcpaaBase16
namespace Go.Proofs.Yticplbnnmajcpaa
open Go Go.RowKit

theorem rightV_iff (c : CellD) : rightV c = true ↔ c.key.toList ≠ [] ∧ (c.key.size : Int) ≤ 64 ∧ 0 ≤ c.seq ∧ c.seq ≤ 72057594037927935 ∧ (c.kind = 0 ∨ c.kind = 1) := by
  unfold rightV maxSeq
  simp only [Bool.and_eq_true, Bool.or_eq_true, decide_eq_true_eq, beq_iff_eq, Bool.not_eq_true', List.isEmpty_eq_false_iff]
  constructor
  · rintro ⟨⟨⟨⟨h1, h2⟩, h3⟩, h4⟩, h5⟩; exact ⟨h1, h2, h3, h4, h5⟩
  · rintro ⟨h1, h2, h3, h4, h5⟩; exact ⟨⟨⟨⟨h1, h2⟩, h3⟩, h4⟩, h5⟩
theorem right_cases (c : CellD) : (c.key.toList = [] ∧ rightV c = false) ∨ (c.key.toList ≠ [] ∧ 64 < (c.key.size : Int) ∧ rightV c = false) ∨ (c.key.toList ≠ [] ∧ (c.key.size : Int) ≤ 64 ∧ c.seq < 0 ∧ rightV c = false) ∨
    (c.key.toList ≠ [] ∧ (c.key.size : Int) ≤ 64 ∧ 0 ≤ c.seq ∧ 72057594037927935 < c.seq ∧ rightV c = false) ∨ (c.key.toList ≠ [] ∧ (c.key.size : Int) ≤ 64 ∧ 0 ≤ c.seq ∧ c.seq ≤ 72057594037927935 ∧ c.kind ≠ 0 ∧ c.kind ≠ 1 ∧ rightV c = false) ∨
    (c.key.toList ≠ [] ∧ (c.key.size : Int) ≤ 64 ∧ 0 ≤ c.seq ∧ c.seq ≤ 72057594037927935 ∧ c.kind = 0 ∧ rightV c = true) ∨ (c.key.toList ≠ [] ∧ (c.key.size : Int) ≤ 64 ∧ 0 ≤ c.seq ∧ c.seq ≤ 72057594037927935 ∧ c.kind = 1 ∧ rightV c = true) := by
  have h := rightV_iff c
  have hf : rightV c = false ↔ ¬ rightV c = true := by simp
  by_cases h1 : c.key.toList = []
  · exact .inl ⟨h1, hf.2 fun h' => (h.1 h').1 h1⟩
  · by_cases h2 : (c.key.size : Int) ≤ 64
    · by_cases h3 : 0 ≤ c.seq
      · by_cases h4 : c.seq ≤ 72057594037927935
        · by_cases h5 : c.kind = 0
          · exact .inr (.inr (.inr (.inr (.inr (.inl ⟨h1, h2, h3, h4, h5, h.2 ⟨h1, h2, h3, h4, .inl h5⟩⟩)))))
          · by_cases h6 : c.kind = 1
            · exact .inr (.inr (.inr (.inr (.inr (.inr ⟨h1, h2, h3, h4, h6, h.2 ⟨h1, h2, h3, h4, .inr h6⟩⟩)))))
            · exact .inr (.inr (.inr (.inr (.inl ⟨h1, h2, h3, h4, h5, h6, hf.2 fun h' => (h.1 h').2.2.2.2.elim h5 h6⟩))))
        · exact .inr (.inr (.inr (.inl ⟨h1, h2, h3, by omega, hf.2 fun h' => h4 (h.1 h').2.2.2.1⟩)))
      · exact .inr (.inr (.inl ⟨h1, h2, by omega, hf.2 fun h' => h3 (h.1 h').2.2.1⟩))
    · exact .inr (.inl ⟨h1, by omega, hf.2 fun h' => h2 (h.1 h').2.1⟩)
def errV (c : CellD) : Int := if rightV c then 0 else 1
set_option maxRecDepth 100000 in
set_option maxHeartbeats 1000000 in
theorem Check_calls (c : CellD) (w : World) : Calls Try.prog 53 #[.agg #[.string c.key, .int .i64 c.seq, .int .i64 c.kind]] w fun e w' => e = .returned (.int .i64 (errV c)) ∧ Below w.heap.size w w' := by
  have HR : Hid (errV c = if rightV c then 0 else 1) := rfl
  have hc := right_cases c
  generalize errV c = r at *
  generalize rightV c = b at *
  obtain ⟨key, seq, kind, val⟩ := c
  simp only at hc
  go_enter Try.func53, Try.ntmps53
  rcases hc with ⟨h1, rfl⟩ | ⟨h1, h2, rfl⟩ | ⟨h1, h2, h3, rfl⟩ | ⟨h1, h2, h3, h4, rfl⟩ | ⟨h1, h2, h3, h4, h5, h6, rfl⟩ | ⟨h1, h2, h3, h4, rfl, rfl⟩ | ⟨h1, h2, h3, h4, rfl, rfl⟩
  · have k1 : (key.toList == []) = true := by rw [h1]; rfl
    have k2 : key.toList.isEmpty = true := by rw [h1]; rfl
    clear h1
    go_wp2_with fail
    go_ret
    exact ⟨by rw [HR.out]; rfl, (Below.refl _ _).alloc (Nat.le_refl _) _⟩
  all_goals
    have k1 : (key.toList == []) = false := by simpa using h1
    have k2 : key.toList.isEmpty = false := by simpa using h1
    clear h1
  · have h2' : ¬ (key.size : Int) ≤ 64 := by omega
    go_wp2_with fail
    go_ret
    exact ⟨by rw [HR.out]; rfl, (Below.refl _ _).alloc (Nat.le_refl _) _⟩
  all_goals have h2' : ¬ 64 < (key.size : Int) := by omega
  · have h3' : ¬ 0 ≤ seq := by omega
    go_wp2_with fail
    go_ret
    exact ⟨by rw [HR.out]; rfl, (Below.refl _ _).alloc (Nat.le_refl _) _⟩
  all_goals have h3' : ¬ seq < 0 := by omega
  · have h4' : ¬ seq ≤ 72057594037927935 := by omega
    go_wp2_with fail
    go_ret
    exact ⟨by rw [HR.out]; rfl, (Below.refl _ _).alloc (Nat.le_refl _) _⟩
  all_goals have h4' : ¬ 72057594037927935 < seq := by omega
  · have h5' : (kind != 0) = true := by simpa using h5
    have h6' : (kind != 1) = true := by simpa using h6
    clear h5 h6
    go_wp2_with fail
    go_ret
    exact ⟨by rw [HR.out]; rfl, (Below.refl _ _).alloc (Nat.le_refl _) _⟩
  · go_wp2_with fail
    go_ret
    exact ⟨by rw [HR.out]; rfl, (Below.refl _ _).alloc (Nat.le_refl _) _⟩
  · go_wp2_with fail
    go_ret
    exact ⟨by rw [HR.out]; rfl, (Below.refl _ _).alloc (Nat.le_refl _) _⟩
set_option maxRecDepth 100000 in
set_option maxHeartbeats 1000000 in
theorem RightV_calls (c : CellD) (w : World) : Calls Try.prog 26 #[.agg #[.string c.key, .int .i64 c.seq, .int .i64 c.kind]] w fun e w' => e = .returned (.bool (rightV c)) ∧ Below w.heap.size w w' := by
  have hc := right_cases c
  generalize rightV c = b at *
  obtain ⟨key, seq, kind, val⟩ := c
  simp only at hc
  go_enter Try.func26, Try.ntmps26
  rcases hc with ⟨h1, rfl⟩ | ⟨h1, h2, rfl⟩ | ⟨h1, h2, h3, rfl⟩ | ⟨h1, h2, h3, h4, rfl⟩ | ⟨h1, h2, h3, h4, h5, h6, rfl⟩ | ⟨h1, h2, h3, h4, rfl, rfl⟩ | ⟨h1, h2, h3, h4, rfl, rfl⟩
  · have k1 : (key.toList != []) = false := by rw [h1]; rfl
    have k2 : key.toList.isEmpty = true := by rw [h1]; rfl
    clear h1
    go_wp2_with fail
    go_ret
    exact ⟨rfl, (Below.refl _ _).alloc (Nat.le_refl _) _⟩
  all_goals
    have k1 : (key.toList != []) = true := by simpa using h1
    have k2 : key.toList.isEmpty = false := by simpa using h1
    clear h1
  · have h2' : ¬ (key.size : Int) ≤ 64 := by omega
    go_wp2_with fail
    go_ret
    exact ⟨rfl, (Below.refl _ _).alloc (Nat.le_refl _) _⟩
  all_goals have h2' : ¬ 64 < (key.size : Int) := by omega
  · have h3' : ¬ 0 ≤ seq := by omega
    have h3'' : ¬ seq ≥ 0 := by omega
    go_wp2_with fail
    go_ret
    exact ⟨rfl, (Below.refl _ _).alloc (Nat.le_refl _) _⟩
  all_goals have h3' : ¬ seq < 0 := by omega
  · have h4' : ¬ seq ≤ 72057594037927935 := by omega
    go_wp2_with fail
    go_ret
    exact ⟨rfl, (Below.refl _ _).alloc (Nat.le_refl _) _⟩
  all_goals have h4' : ¬ 72057594037927935 < seq := by omega
  · have h5' : (kind == 0) = false := by simpa using h5
    have h6' : (kind == 1) = false := by simpa using h6
    clear h5 h6
    go_wp2_with fail
    go_ret
    exact ⟨rfl, (Below.refl _ _).alloc (Nat.le_refl _) _⟩
  · go_wp2_with fail
    go_ret
    exact ⟨rfl, (Below.refl _ _).alloc (Nat.le_refl _) _⟩
  · go_wp2_with fail
    go_ret
    exact ⟨rfl, (Below.refl _ _).alloc (Nat.le_refl _) _⟩

theorem less_cases (a b : CellD) : (a.key.toList ≠ b.key.toList ∧ lessV a b = slt a.key b.key) ∨ (a.key.toList = b.key.toList ∧ b.seq < a.seq ∧ lessV a b = true) ∨ (a.key.toList = b.key.toList ∧ a.seq < b.seq ∧ lessV a b = false) ∨
    (a.key.toList = b.key.toList ∧ a.seq = b.seq ∧ b.kind < a.kind ∧ lessV a b = true) ∨ (a.key.toList = b.key.toList ∧ a.seq = b.seq ∧ a.kind ≤ b.kind ∧ lessV a b = false) := by
  unfold lessV keqB
  by_cases h : a.key.toList = b.key.toList
  · have h' : (a.key.toList == b.key.toList) = true := by simpa using h
    rw [h', if_pos rfl]
    right
    rcases Int.lt_trichotomy a.seq b.seq with h1 | h1 | h1
    · exact .inr (.inl ⟨h, h1, by rw [if_neg (by omega)]; simp; omega⟩)
    · right; right
      by_cases h2 : b.kind < a.kind
      · exact .inl ⟨h, h1, h2, by rw [if_pos h1]; simpa using h2⟩
      · exact .inr ⟨h, h1, by omega, by rw [if_pos h1]; simp; omega⟩
    · exact .inl ⟨h, h1, by rw [if_neg (by omega)]; simpa using h1⟩
  · have h' : (a.key.toList == b.key.toList) = false := by simpa using h
    rw [h', if_neg (by simp)]
    exact .inl ⟨h, rfl⟩
theorem below_two {w : World} {o1 o2 : Obj} : Below w.heap.size w ((w.alloc o1).alloc o2) := ((Below.refl _ _).alloc (Nat.le_refl _) _).alloc (by simp) _
set_option maxRecDepth 100000 in
set_option maxHeartbeats 1000000 in
theorem LessR_calls (a b : CellD) (w : World) : Calls Try.prog 25 #[.agg #[.string a.key, .int .i64 a.seq, .int .i64 a.kind], .agg #[.string b.key, .int .i64 b.seq, .int .i64 b.kind]] w fun e w' => e = .returned (.bool (lessV a b)) ∧ Below w.heap.size w w' := by
  have hc := less_cases a b
  generalize lessV a b = r at *
  obtain ⟨key, seq, kind, val⟩ := a
  obtain ⟨key2, seq2, kind2, val2⟩ := b
  simp only at hc
  go_enter Try.func25, Try.ntmps25
  rcases hc with ⟨h1, rfl⟩ | ⟨h1, h2, rfl⟩ | ⟨h1, h2, rfl⟩ | ⟨h1, rfl, h3, rfl⟩ | ⟨h1, rfl, h3, rfl⟩
  · have k1 : (key.toList == key2.toList) = false := by simpa using h1
    clear h1
    go_wp2_with fail
    go_ret
    exact ⟨rfl, below_two⟩
  all_goals
    have k1 : (key.toList == key2.toList) = true := by simpa using h1
    clear h1
  · have h2' : (seq != seq2) = true := by simp; omega
    have h2'' : seq > seq2 := h2
    go_wp2_with fail
    go_ret
    exact ⟨rfl, below_two⟩
  · have h2' : (seq != seq2) = true := by simp; omega
    have h2'' : ¬ seq > seq2 := by omega
    have h2''' : ¬ seq2 < seq := by omega
    go_wp2_with fail
    go_ret
    exact ⟨rfl, below_two⟩
  · have h2' : (seq != seq) = false := by simp
    go_wp2_with fail
    go_ret
    exact ⟨rfl, below_two⟩
  · have h2' : (seq != seq) = false := by simp
    have h3' : ¬ kind2 < kind := by omega
    go_wp2_with fail
    go_ret
    exact ⟨rfl, below_two⟩
set_option maxRecDepth 100000 in
set_option maxHeartbeats 1000000 in
theorem Less_calls (a b : CellD) (w : World) : Calls Try.prog 50 #[.agg #[.string a.key, .int .i64 a.seq, .int .i64 a.kind], .agg #[.string b.key, .int .i64 b.seq, .int .i64 b.kind]] w fun e w' => e = .returned (.bool (lessV a b)) ∧ Below w.heap.size w w' := by
  have hc := less_cases a b
  have hcs : (a.key.toList ≠ b.key.toList → cmpS a.key b.key = (if slt a.key b.key then -1 else 1)) ∧ (a.key.toList = b.key.toList → cmpS a.key b.key = 0) := ⟨fun h => by unfold cmpS; rw [if_neg h], fun h => by unfold cmpS; rw [if_pos h]⟩
  have KC := Lib.hid (fun W => Compare_calls a.key b.key W)
  generalize lessV a b = r at *
  generalize cmpS a.key b.key = z at *
  obtain ⟨key, seq, kind, val⟩ := a
  obtain ⟨key2, seq2, kind2, val2⟩ := b
  simp only at hc hcs KC
  go_enter Try.func50, Try.ntmps50
  rcases hc with ⟨h1, rfl⟩ | ⟨h1, h2, rfl⟩ | ⟨h1, h2, rfl⟩ | ⟨h1, rfl, h3, rfl⟩ | ⟨h1, rfl, h3, rfl⟩
  · have hz := hcs.1 h1
    clear hcs h1
    rcases hs : slt key key2 with _ | _
    · rw [hs] at hz
      obtain rfl : z = 1 := hz
      go_wp2_with (go_at_call 80; refine (KC.out _).mono ?_; rintro e w1 ⟨rfl, rfl⟩)
      go_ret
      exact ⟨rfl, below_two⟩
    · rw [hs] at hz
      obtain rfl : z = -1 := hz
      go_wp2_with (go_at_call 80; refine (KC.out _).mono ?_; rintro e w1 ⟨rfl, rfl⟩)
      go_ret
      exact ⟨rfl, below_two⟩
  all_goals
    obtain rfl := hcs.2 h1
    clear hcs h1
  · have h2'' : seq > seq2 := h2
    go_wp2_with (go_at_call 80; refine (KC.out _).mono ?_; rintro e w1 ⟨rfl, rfl⟩)
    go_ret
    exact ⟨rfl, below_two⟩
  · have h2' : (seq == seq2) = false := by simp; omega
    have h2''' : decide (seq2 < seq) = false := by simp; omega
    go_wp2_with (go_at_call 80; refine (KC.out _).mono ?_; rintro e w1 ⟨rfl, rfl⟩)
    go_ret
    exact ⟨rfl, below_two⟩
  · go_wp2_with (go_at_call 80; refine (KC.out _).mono ?_; rintro e w1 ⟨rfl, rfl⟩)
    go_ret
    exact ⟨rfl, below_two⟩
  · have h3' : ¬ kind2 < kind := by omega
    go_wp2_with (go_at_call 80; refine (KC.out _).mono ?_; rintro e w1 ⟨rfl, rfl⟩)
    go_ret
    exact ⟨ret_bool (by simp; omega), below_two⟩
end Go.Proofs.Yticplbnnmajcpaa
