/- assartlaw16.sort: versions in their order, each once. -/
import Derived.Test.YticplbnnmajcpaaPlace
namespace Go.Proofs.Yticplbnnmajcpaa
open Go Go.RowKit

def freshB (out : List CellD) (c : CellD) : Bool := match out.dropWhile (aheadC c) with | [] => true | y :: _ => !verEq y c
def sortStep (out : List CellD) (c : CellD) : List CellD := if rightV c && freshB out c then placeL out c else out
def sortD (l : List CellD) : List CellD := (l.take 60).foldl sortStep []
theorem place_mem {l : List CellD} {c x : CellD} : x ∈ placeL l c ↔ x = c ∨ x ∈ l := by
  unfold placeL
  have h := List.takeWhile_append_dropWhile (p := aheadC c) (l := l)
  constructor
  · intro hx
    rcases List.mem_append.1 hx with h1 | h1
    · exact .inr ((List.takeWhile_sublist _).subset h1)
    · rcases List.mem_cons.1 h1 with h1 | h1
      · exact .inl h1
      · exact .inr ((List.dropWhile_sublist _).subset h1)
  · rintro (rfl | hx)
    · simp
    · rw [← h] at hx
      rcases List.mem_append.1 hx with h1 | h1
      · simp [h1]
      · simp [h1]
theorem place_len (l : List CellD) (c : CellD) : (placeL l c).length = l.length + 1 := by
  unfold placeL
  have h := congrArg List.length (List.takeWhile_append_dropWhile (p := aheadC c) (l := l))
  simp only [List.length_append, List.length_cons] at h ⊢
  omega
theorem place_sorted {l : List CellD} {c : CellD} (hs : sortedL l = true) (hf : freshB l c = true) : sortedL (placeL l c) = true := by
  have hp := sorted_pair.1 hs
  rw [← List.takeWhile_append_dropWhile (p := aheadC c) (l := l)] at hp
  have hp' := List.pairwise_append.1 hp
  have htw : ∀ x ∈ l.takeWhile (aheadC c), lessV x c = true := fun x hx => by
    have h := List.all_takeWhile (l := l) (p := aheadC c)
    exact List.all_eq_true.1 h x hx
  have hdw : ∀ y ∈ l.dropWhile (aheadC c), lessV c y = true := by
    unfold freshB at hf
    rcases hd : l.dropWhile (aheadC c) with _ | ⟨y, d⟩
    · intro y hy; simp at hy
    · rw [hd] at hf hp'
      have hy0 : lessV y c = false := by
        have := List.head?_dropWhile_not (aheadC c) l
        rw [hd] at this
        simpa [aheadC] using this
      have hv : verEq y c = false := by simpa using hf
      have hcy : lessV c y = true := by
        rcases less_tri y c with h | h | h
        · rw [h] at hy0; cases hy0
        · rw [h] at hv; cases hv
        · exact h
      intro z hz
      rcases List.mem_cons.1 hz with rfl | hz
      · exact hcy
      · exact less_trans hcy ((List.pairwise_cons.1 hp'.2.1).1 z hz)
  unfold placeL
  rw [sorted_pair, List.pairwise_append]
  refine ⟨hp'.1, List.pairwise_cons.2 ⟨hdw, hp'.2.1⟩, fun a ha b hb => ?_⟩
  rcases List.mem_cons.1 hb with rfl | hb
  · exact htw a ha
  · exact hp'.2.2 a ha b hb
theorem sort_good (l : List CellD) : rightL (sortD l) = true ∧ (sortD l).length ≤ 60 := by
  have key : ∀ (l out : List CellD), (∀ c ∈ out, rightV c = true) → sortedL out = true → (∀ c ∈ l.foldl sortStep out, rightV c = true) ∧ sortedL (l.foldl sortStep out) = true ∧ (l.foldl sortStep out).length ≤ out.length + l.length := by
    intro l
    induction l with
    | nil => intro out h1 h2; exact ⟨h1, h2, by simp⟩
    | cons c l ih =>
      intro out h1 h2
      simp only [List.foldl_cons, List.length_cons]
      by_cases hc : (rightV c && freshB out c) = true
      · have e : sortStep out c = placeL out c := by unfold sortStep; rw [if_pos hc]
        simp only [Bool.and_eq_true] at hc
        rw [e]
        obtain ⟨a, b, d⟩ := ih (placeL out c) (fun x hx => by
          rcases place_mem.1 hx with rfl | hx
          · exact hc.1
          · exact h1 x hx) (place_sorted h2 hc.2)
        rw [place_len] at d
        exact ⟨a, b, by omega⟩
      · have e : sortStep out c = out := by unfold sortStep; rw [if_neg hc]
        rw [e]
        obtain ⟨a, b, d⟩ := ih out h1 h2
        exact ⟨a, b, by omega⟩
  obtain ⟨a, b, d⟩ := key (l.take 60) [] (fun c h => by simp at h) (by simp [sortedL])
  refine ⟨?_, by unfold sortD; simp at d; omega⟩
  unfold rightL sortD
  rw [Bool.and_eq_true, List.all_eq_true]
  exact ⟨a, b⟩
theorem sort_sorted (l : List CellD) : sortedL (sortD l) = true := by
  have := (sort_good l).1
  unfold rightL at this
  rw [Bool.and_eq_true] at this
  exact this.2
theorem ver_neq (x y : CellD) (w : World) : (binOp .neq 33 (.agg #[.string x.key, .int .i64 x.seq, .int .i64 x.kind]) (.agg #[.string y.key, .int .i64 y.seq, .int .i64 y.kind])).run Try.prog w = .ok (.bool (!verEq x y)) w := by
  have hu : Try.prog.underlying 33 = some (.struct (Try.prog.fieldsOf 33)) := by kernel_rfl
  have hh : Try.prog.stoodInHeld 33 = false := by kernel_rfl
  rw [run_neq_struct, run_equalIn_agg _ _ _ _ _ hu hh]
  have h25 := Try.underlying33
  simp [go_sem, Program.fieldsOf, h25, Try.underlying3, Try.underlying9]
  unfold verEq keqB
  repeat' split
  all_goals simp [*]
theorem ver_guard (x y : Operand) (xs ys : Array Value) (w : World) : (eqGuard .neq 33 x y (.agg xs) (.agg ys)).run Try.prog w = .ok () w := run_eqGuard_agg _ _ _ _ _ _ _ (by kernel_rfl)
theorem step_at {out : List CellD} {c : CellD} {k : Nat} (h1 : (out.take k).all (aheadC c) = true) (hk : k < out.length) (h2 : lessV out[k] c = false) : sortStep out c = if rightV c && !verEq out[k] c then placeL out c else out := by
  have h := (tw_stop h1 (fun _ => h2) (Nat.le_of_lt hk)).2
  unfold sortStep freshB
  rw [h, List.drop_eq_getElem_cons hk]
theorem step_end {out : List CellD} {c : CellD} (h1 : out.all (aheadC c) = true) : sortStep out c = if rightV c then placeL out c else out := by
  have h := (tw_stop (k := out.length) (by rw [List.take_length]; exact h1) (fun h => absurd h (by omega)) (Nat.le_refl _)).2
  unfold sortStep freshB
  rw [h, List.drop_length, Bool.and_true]
end Go.Proofs.Yticplbnnmajcpaa
