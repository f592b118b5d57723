/- Files that a crash may cut: behind a crash all is in order; plain. -/
import Derived.Test.YtjmafbdakalknaaDoorFsCrash
set_option linter.unusedVariables false
set_option linter.unusedSimpArgs false
namespace Go.Proofs.YtjmafbdakalknaaDoor
open Go Go.RowKit Hv
theorem spoil_len (l : List UInt8) : (FsD.spoil l).length = l.length := by
  unfold FsD.spoil
  split
  · rename_i b h
    have hne : l ≠ [] := fun e => by rw [e] at h; simp at h
    have : 0 < l.length := List.length_pos_iff.2 hne
    rw [List.length_append, List.length_dropLast]; simp only [List.length_cons, List.length_nil]; omega
  · rfl
theorem cutFile_len (x : FileD) (p : Nat) (h : x.last ≤ x.b.length) : (FsD.cutFile x p).b.length = x.last + p % (x.b.length - x.last + 1) := by
  have hm : p % (x.b.length - x.last + 1) < x.b.length - x.last + 1 := Nat.mod_lt _ (Nat.succ_pos _)
  show (if p % 2 = 1 ∧ 0 < p % (x.b.length - x.last + 1) then FsD.spoil (x.b.take (x.last + p % (x.b.length - x.last + 1))) else x.b.take (x.last + p % (x.b.length - x.last + 1))).length = _
  split
  · rw [spoil_len, List.length_take]; omega
  · rw [List.length_take]; omega
theorem cutFile_last (x : FileD) (p : Nat) : (FsD.cutFile x p).last = (FsD.cutFile x p).b.length := rfl
theorem cutFile_fits (x : FileD) (p : Nat) (h : x.b.length ≤ 1048576 ∧ x.last ≤ x.b.length) : (FsD.cutFile x p).b.length ≤ 1048576 ∧ (FsD.cutFile x p).last ≤ (FsD.cutFile x p).b.length := by
  have hm : p % (x.b.length - x.last + 1) < x.b.length - x.last + 1 := Nat.mod_lt _ (Nat.succ_pos _)
  refine ⟨?_, Nat.le_of_eq (cutFile_last x p)⟩
  rw [cutFile_len x p h.2]; omega
/-- What holds of each file, and of what is cut of it, holds behind the cuts; as many files are there. -/
theorem cutAll_all (P : Nat → FileD → Prop) (hP : ∀ i x p, P i x → P i (FsD.cutFile x p)) (now : List NmE) : ∀ (ns : List ByteArray) (fs : List FileD) (picks : List Int), (∀ (i : Nat) (x : FileD), fs[i]? = some x → P i x) →
    (FsD.cutAll now ns fs picks).length = fs.length ∧ ∀ (i : Nat) (x : FileD), (FsD.cutAll now ns fs picks)[i]? = some x → P i x
  | [], fs, picks, h => ⟨rfl, h⟩
  | n :: ns, fs, picks, h => by
    unfold FsD.cutAll
    split
    · rename_i i hl
      split
      · rename_i x hx
        split
        · exact cutAll_all P hP now ns fs picks h
        · have ih := cutAll_all P hP now ns (fs.set i (FsD.cutFile x (FsD.next picks).1)) (FsD.next picks).2 fun j y hy => by
            by_cases hj : i = j
            · subst hj
              have hlt := (List.getElem?_eq_some_iff.1 hx).1
              rw [List.getElem?_set_self hlt] at hy
              injection hy with hy
              subst hy
              exact hP i x _ (h i x hx)
            · rw [List.getElem?_set_ne hj] at hy
              exact h j y hy
          exact ⟨ih.1.trans (List.length_set ..), ih.2⟩
      · exact cutAll_all P hP now ns fs picks h
    · exact cutAll_all P hP now ns fs picks h
theorem crash_ok {d : FsD} (hok : FsOk d) (picks : List Int) : FsOk (d.crash picks) := by
  have hk := lastK_ok hok ((FsD.next picks).1 % (d.wait.length + 1))
  have hf := hok.few ((FsD.next picks).1 % (d.wait.length + 1))
  have hc := cutAll_all (fun _ x => x.b.length ≤ 1048576 ∧ x.last ≤ x.b.length) (fun _ x p h => cutFile_fits x p h) (lastK d ((FsD.next picks).1 % (d.wait.length + 1))).1 (FsD.sortN ((lastK d ((FsD.next picks).1 % (d.wait.length + 1))).1.map (·.key))) d.files (FsD.next picks).2 hok.len
  refine ⟨hok.room, hk.1, hk.1, fun e he => ?_, fun e he => ?_, fun c hc => absurd hc List.not_mem_nil, rfl, fun k => ?_, hc.2, fun h => absurd h (by show ¬(false = true); simp)⟩
  · have := hk.2 e he; exact ⟨Nat.lt_of_lt_of_eq this.1 hc.1.symm, this.2⟩
  · have := hk.2 e he; exact ⟨Nat.lt_of_lt_of_eq this.1 hc.1.symm, this.2⟩
  · show ((([] : List ChD).take k).foldl _ (lastK d ((FsD.next picks).1 % (d.wait.length + 1)))).1.length ≤ 400
    rw [List.take_nil]; exact hf
end Go.Proofs.YtjmafbdakalknaaDoor
