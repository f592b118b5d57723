/- The shelf's rows of structs (HoldsK, putRowK) and the rows that a call owns; slices.Reverse at tables. -/
import Derived.Test.YtheanmfdfoefoaaPickSl
import Derived.Shelf.SlicesQ.Reverse
import Derived.Ground.SlgnProg
namespace Go.Proofs.Ytheanmfdfoefoaa
open Go Go.RowKit Go.Sort

section
variable {α : Type} [Inhabited α]
theorem flatK_list (enc : α → List Value) (k : Nat) (hk : ∀ x, (enc x).length = k) (d : Array α) : (flatK enc k d).toList = d.toList.flatMap enc := by
  have hl := flatMap_len hk d.toList
  apply List.ext_getElem?
  intro i
  by_cases hi : i < d.size * k
  · have hk0 : 0 < k := by
      rcases Nat.eq_zero_or_pos k with h | h
      · subst h; simp at hi
      · exact h
    have hq : i / k < d.size := Nat.div_lt_of_lt_mul (by rw [Nat.mul_comm]; exact hi)
    have hr : i % k < k := Nat.mod_lt _ hk0
    have h1 := flatMap_get hk d.toList (i / k) (i % k) (by simpa using hq) hr
    rw [show i / k * k + i % k = i from by rw [Nat.mul_comm]; exact Nat.div_add_mod i k] at h1
    rw [h1]
    have h2 := get_flatK enc k d i hi
    have h3 : i < (flatK enc k d).size := by rw [size_flatK]; exact hi
    rw [getElem!_pos (flatK enc k d) i h3] at h2
    have h4 : (flatK enc k d).toList[i]? = some (flatK enc k d)[i] := by rw [List.getElem?_eq_getElem (by simpa using h3)]; simp
    rw [h4, h2, getElem!_pos d (i / k) hq, getElem!_pos _ _ (by rw [hk]; exact hr)]
    simp
  · rw [List.getElem?_eq_none (by simp only [Array.length_toList, size_flatK]; omega), List.getElem?_eq_none (by rw [hl]; simp only [Array.length_toList]; omega)]
theorem holds_own {enc : α → List Value} {k : Nat} (hk : ∀ x, (enc x).length = k) {w : World} {base : Nat} {e : TypeId} {g c : Nat} {l : List α} (h : w.ownsRow base e k (.slice (some ⟨g, 0, none⟩) l.length c) l.length (l.flatMap enc)) :
    HoldsK enc k w g 0 l.toArray := by
  obtain ⟨h1, h2⟩ := h
  rcases h2 with ⟨h2, _⟩ | ⟨g', cap, cur, hv, hg, hh, hnc, hcm, hsz, htk⟩
  · cases h2
  · injection hv with hv _ hc
    injection hv with hv
    injection hv with hv
    subst hv hc
    intro j hj
    rw [size_flatK] at hj
    have hj' : j < (l.flatMap enc).length := by rw [flatMap_len hk]; simpa using hj
    have hjc : j < cur.size := by rw [hsz]; exact Nat.lt_of_lt_of_le (by simpa using hj) (Nat.mul_le_mul_right _ hnc)
    refine ⟨?_, by simp [World.frozen?, hh]⟩
    have e1 : (flatK enc k l.toArray)[j]! = (l.flatMap enc)[j]'hj' := by
      have h3 : j < (flatK enc k l.toArray).size := by rw [size_flatK]; exact hj
      rw [getElem!_pos (flatK enc k l.toArray) j h3]
      have := flatK_list enc k hk l.toArray
      have h4 : (flatK enc k l.toArray).toList[j]? = (l.flatMap enc)[j]? := by rw [this]
      rw [List.getElem?_eq_getElem hj', List.getElem?_eq_getElem (by simpa using h3)] at h4
      injection h4
    have e2 : (l.flatMap enc)[j]'hj' = cur[j]'hjc := by
      have h5 : (cur.toList.take (l.length * k))[j]? = (l.flatMap enc)[j]? := by rw [htk]
      rw [List.getElem?_take, if_pos (by simpa using hj), List.getElem?_eq_getElem hj', List.getElem?_eq_getElem (by simpa using hjc)] at h5
      injection h5 with h5
      rw [← h5]; simp
    rw [e1, e2]
    simp [World.cell?, hh, hjc]
theorem put_heap {enc : α → List Value} {k : Nat} {w : World} {g : Nat} {cur : Array Value} {t : TypeId} {fr : Nat × Nat} {d : Array α} (hg : w.heap[g]? = some (.cells cur t fr)) :
    (putRowK enc k w g 0 d).heap[g]? = some (.cells (putCells id 0 (flatK enc k d) cur) t fr) := by
  show (w.heap.modify g (onCells _))[g]? = _
  rw [Array.getElem?_modify, if_pos rfl, hg]
  rfl
theorem put_far {enc : α → List Value} {k : Nat} {w : World} {g b off : Nat} {d : Array α} (h : b ≠ g) : (putRowK enc k w g off d).heap[b]? = w.heap[b]? := by
  show (w.heap.modify g (onCells _))[b]? = _
  rw [Array.getElem?_modify, if_neg (fun e => h e.symm)]
theorem own_put {enc : α → List Value} {k : Nat} (hk : ∀ x, (enc x).length = k) {w : World} {base : Nat} {e : TypeId} {g c n : Nat} {xs : List Value} (h : w.ownsRow base e k (.slice (some ⟨g, 0, none⟩) n c) n xs) {d : Array α} (hd : d.size = n) :
    (putRowK enc k w g 0 d).ownsRow base e k (.slice (some ⟨g, 0, none⟩) n c) n (d.toList.flatMap enc) := by
  obtain ⟨h1, h2⟩ := h
  refine ⟨by rw [flatMap_len hk]; simp [hd], ?_⟩
  rcases h2 with ⟨h2, _⟩ | ⟨g', cap, cur, hv, hg, hh, hnc, hcm, hsz, htk⟩
  · cases h2
  · injection hv with hv _ hc
    injection hv with hv
    injection hv with hv
    subst hv hc
    right
    refine ⟨g, c, _, rfl, hg, put_heap hh, hnc, hcm, by simp [putCells, hsz], ?_⟩
    have hle : n * k ≤ cur.size := by rw [hsz]; exact Nat.mul_le_mul_right _ hnc
    have hfl := flatK_list enc k hk d
    have hln : (d.toList.flatMap enc).length = n * k := by rw [flatMap_len hk]; simp [hd]
    have hsf : (flatK enc k d).size = n * k := by rw [size_flatK, hd]
    rw [← hfl]
    apply List.ext_getElem?
    intro i
    rw [List.getElem?_take]
    by_cases hi : i < n * k
    · rw [if_pos hi]
      have hc' : i < cur.size := by omega
      have hf' : i < (flatK enc k d).size := by omega
      rw [List.getElem?_eq_getElem (by simpa [putCells] using hc'), List.getElem?_eq_getElem (by simpa using hf')]
      simp only [putCells, Array.getElem_toList, Array.getElem_mapIdx, Nat.zero_le, true_and, Nat.zero_add, Nat.sub_zero, id]
      rw [if_pos hf', getElem!_pos (flatK enc k d) i hf']
    · rw [if_neg hi, List.getElem?_eq_none (by simp only [Array.length_toList, hsf]; omega)]
theorem below_put {enc : α → List Value} {k : Nat} {B : Nat} {w0 w : World} {g off : Nat} {d : Array α} (h : Below B w0 w) (hg : B ≤ g) : Below B w0 (putRowK enc k w g off d) :=
  ⟨h.os, h.tape, h.output, by show _ ≤ (putRow id w g off _).heap.size; rw [size_putRow]; exact h.size, fun b hb => (put_far (by omega)).trans (h.block b hb)⟩
theorem below_ahead {B : Nat} {w0 w : World} (h : Below B w0 w) (n : Nat) : Below B w0 (Sort.ahead w n) := ⟨h.os, h.tape, h.output, h.size, h.block⟩
end

instance : Inhabited MetaD := ⟨⟨0, 0, ⟨#[]⟩, ⟨#[]⟩⟩⟩
shelf_lay_g SlLaysE0.n35 Slgn 35 at Try 58 as Try.revM
theorem agg_emeta (w : World) : (isAgg 51).run Try.prog w = .ok true w := Try.isAgg51 w
theorem siz_emeta (w : World) : (Go.sizeOf 51).run Try.prog w = .ok 4 w := Try.sizeOf51 w
theorem own_form {w : World} {base : Nat} {e : TypeId} {k n : Nat} {v : Value} {xs : List Value} (h : w.ownsRow base e k v n xs) : (v = .slice none 0 0 ∧ n = 0) ∨ ∃ g c, v = .slice (some ⟨g, 0, none⟩) n c ∧ base ≤ g ∧ g < w.heap.size ∧ n ≤ c ∧ c ≤ maxLen := by
  obtain ⟨_, h⟩ := h
  rcases h with h | ⟨g, cap, cur, h1, h2, h3, h4, h5, _⟩
  · exact .inl h
  · exact .inr ⟨g, cap, h1, h2, lt_of_at h3, h4, h5⟩
theorem Reverse_calls (l : List MetaD) (v : Value) (w : World) (base : Nat) (h : w.ownsRow base 51 4 v l.length (l.flatMap metaC)) (hl : l.length ≤ 1000000) :
    Calls Try.prog 58 #[v] w fun e w' => e = .returned (.tuple #[]) ∧ w'.ownsRow base 51 4 v l.length (l.reverse.flatMap metaC) ∧ ∀ w0 B, Below B w0 w → B ≤ base → Below B w0 w' := by
  rcases own_form h with ⟨rfl, hn⟩ | ⟨g, c, rfl, hg, hlt, _, _⟩
  · obtain rfl := List.eq_nil_of_length_eq_zero hn
    exact (AnyQ.slices_Reverse_empty Try.revM none 0 w).mono fun e w' ⟨he, hw⟩ => ⟨he, by subst hw; exact h, fun w0 B hb _ => by subst hw; exact hb⟩
  · refine (AnyQ.slices_Reverse Try.revM 4 agg_emeta siz_emeta metaC metaC_len metaC_one g 0 c l.toArray w (holds_own metaC_len h) (by simp; omega)).mono fun e w' ⟨he, n, hw⟩ => ⟨he, ?_, fun w0 B hb hB => ?_⟩
    · subst hw
      have := own_put (d := l.toArray.reverse) metaC_len (w := Sort.ahead w n) h (by simp)
      simpa using this
    · subst hw
      exact below_put (below_ahead hb n) (by omega)
end Go.Proofs.Ytheanmfdfoefoaa
