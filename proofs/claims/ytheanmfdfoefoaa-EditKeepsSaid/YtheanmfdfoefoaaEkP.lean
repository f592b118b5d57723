/- Edit: how many tables there are behind an edit. Plain: no program in sight. -/
import Derived.Test.YtheanmfdfoefoaaEdLaw
set_option linter.unusedVariables false
namespace Go.Proofs.Ytheanmfdfoefoaa
open Go Go.RowKit Hv
theorem few_lv {s : StD} (h : countS s ≤ 1000) : ∀ n, n < 4 → (s.lv n).length ≤ 1000 := by
  intro n hn
  unfold countS at h
  obtain rfl | rfl | rfl | rfl : n = 0 ∨ n = 1 ∨ n = 2 ∨ n = 3 := by omega
  · omega
  · omega
  · omega
  · omega
theorem applyGo_ok {s : StD} {e : EdD} : ((applyGo s e).2 = 0 ∧ ∃ s2, goneS s e.gone ≠ none ∧ (∀ s1, goneS s e.gone = some s1 → newS s1 e.new = some s2) ∧ (applyGo s e).1 = tellS s2 e ∧ countS s2 ≤ 1000 ∧ s2.log = s.log ∧ s2.next = s.next ∧ s2.seq = s.seq) ∨ ((applyGo s e).2 ≠ 0 ∧ (applyGo s e).1 = noS) := by
  unfold applyGo
  cases hg : goneS s e.gone with
  | none => exact .inr ⟨by simp, rfl⟩
  | some s1 =>
    simp only
    unfold applyNew
    cases hn : newS s1 e.new with
    | none => exact .inr ⟨by simp, rfl⟩
    | some s2 =>
      simp only
      unfold applyEnd
      by_cases hc : 1000 < countS s2
      · rw [if_pos hc]; exact .inr ⟨by simp, rfl⟩
      · rw [if_neg hc]
        by_cases ha : apartS s2 = false
        · rw [if_pos ha]; exact .inr ⟨by simp, rfl⟩
        · rw [if_neg ha]
          obtain ⟨a1, a2, a3⟩ := goneS_nums _ _ _ hg
          obtain ⟨b1, b2, b3⟩ := newS_nums _ _ _ hn
          exact .inl ⟨rfl, s2, by simp, fun s1' h => by injection h with h; rw [← h]; exact hn, rfl, by omega, by rw [b1, a1], by rw [b2, a2], by rw [b3, a3]⟩
theorem docApply_cases (s : StD) (e : EdD) : ((docApply s e).2 = 0 ∧ rightB e = true ∧ docApply s e = applyGo s e) ∨ ((docApply s e).2 ≠ 0 ∧ (docApply s e).1 = noS) := by
  unfold docApply
  by_cases hr : rightB e = false
  · rw [if_pos hr]; exact .inr ⟨by simp, rfl⟩
  · rw [if_neg hr]
    by_cases hb : badB s e = true
    · rw [if_pos hb]; exact .inr ⟨by simp, rfl⟩
    · rw [if_neg hb]
      rcases applyGo_ok (s := s) (e := e) with h | h
      · exact .inl ⟨h.1, by simpa using hr, rfl⟩
      · exact .inr h
theorem docApply_lens {s : StD} {e : EdD} : ∀ n, n < 4 → ((docApply s e).1.lv n).length ≤ 1000 := by
  rcases docApply_cases s e with ⟨h0, hr, hd⟩ | ⟨_, h1⟩
  · rw [hd] at h0 ⊢
    rcases applyGo_ok (s := s) (e := e) with ⟨_, s2, _, _, ht, hc, _⟩ | ⟨h1, _⟩
    · rw [ht]; exact few_lv (s := tellS s2 e) hc
    · exact absurd h0 h1
  · rw [h1]; intro n _; exact Nat.zero_le _
end Go.Proofs.Ytheanmfdfoefoaa
