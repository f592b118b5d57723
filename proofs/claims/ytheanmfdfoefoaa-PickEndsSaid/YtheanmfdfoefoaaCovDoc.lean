/- PickCovers: the plain law. No program in sight. -/
import Derived.Test.YtheanmfdfoefoaaOrd
namespace Go.Proofs.Ytheanmfdfoefoaa
open Go Go.RowKit

def anyF (l : List MetaD) (f : Int) : Bool := l.any (·.file == f)
def anyLv (s : StD) (f : Int) (a : Nat) : Nat → Bool
  | 0 => false
  | c + 1 => anyLv s f a c || anyF (s.lv (a + c)) f
theorem anyLv_iff (s : StD) (f : Int) (a : Nat) : ∀ c, anyLv s f a c = true ↔ ∃ k, a ≤ k ∧ k < a + c ∧ anyF (s.lv k) f = true := by
  intro c
  induction c with
  | zero => simp only [anyLv]; exact ⟨fun h => by simp at h, fun ⟨k, _, _, _⟩ => by omega⟩
  | succ c ih =>
    simp only [anyLv, Bool.or_eq_true, ih]
    constructor
    · rintro (⟨k, h1, h2, h3⟩ | h)
      · exact ⟨k, h1, by omega, h3⟩
      · exact ⟨a + c, by omega, by omega, h⟩
    · rintro ⟨k, h1, h2, h3⟩
      by_cases e : k = a + c
      · subst e; exact .inr h3
      · exact .inl ⟨k, h1, by omega, h3⟩
theorem anyF_iff {l : List MetaD} {f : Int} : anyF l f = true ↔ ∃ m ∈ l, m.file = f := by unfold anyF; simp
def holdL (s : StD) (key : ByteArray) : List MetaD := ((s.lv 0).reverse ++ s.lv 1 ++ s.lv 2 ++ s.lv 3).filter (holdsB key)
theorem mem_holdL {s : StD} {key : ByteArray} {m : MetaD} (h : m ∈ holdL s key) : holdsB key m = true ∧ ∃ k, k < 4 ∧ m ∈ s.lv k := by
  obtain ⟨h1, h2⟩ := List.mem_filter.1 h
  refine ⟨h2, ?_⟩
  simp only [List.mem_append, List.mem_reverse] at h1
  rcases h1 with ((h | h) | h) | h
  · exact ⟨0, by omega, h⟩
  · exact ⟨1, by omega, h⟩
  · exact ⟨2, by omega, h⟩
  · exact ⟨3, by omega, h⟩
theorem botS_all (s : StD) (n : Nat) : ∀ j, botS s n j = true → ∀ i, i < j → deepB s n (n + 2 + i) = true := by
  intro j
  induction j with
  | zero => intro _ i hi; omega
  | succ j ih =>
    intro h i hi
    simp only [botS, Bool.and_eq_true] at h
    by_cases e : i = j
    · subst e; exact h.2
    · exact ih h.1 i (by omega)
/-- Where it is the bottom no deeper table touches. -/
theorem bottom_no {s : StD} {n : Nat} (h : (jobS s n).bottom = true) {k : Nat} (h1 : n + 2 ≤ k) (h2 : k < 4) {m : MetaD} (hm : m ∈ s.lv k) : touchB (spanA (frmS s n ++ tooS s n)) (spanZ (frmS s n ++ tooS s n)) m = false := by
  have hd := botS_all s n _ h (k - (n + 2)) (by omega)
  rw [show n + 2 + (k - (n + 2)) = k from by omega] at hd
  unfold deepB at hd
  have hd' : touchL (s.lv k) (spanA (frmS s n ++ tooS s n)) (spanZ (frmS s n ++ tooS s n)) = [] := List.eq_nil_of_length_eq_zero (by simpa using hd)
  unfold touchL at hd'
  have := List.filter_eq_nil_iff.1 hd' m hm
  simpa using this
theorem touch_of {a z key : ByteArray} {m : MetaD} (h : holdsB key m = true) (ha : sle a key = true) (hz : sle key z = true) : touchB a z m = true := by
  simp only [holdsB, Bool.and_eq_true] at h
  simp only [touchB, Bool.and_eq_true]
  refine ⟨sle_trans h.1 hz, ?_⟩
  rw [← sle_not]
  exact sle_trans ha h.2
def covOk (s : StD) (n : Nat) (f : Int) : Bool := (!(anyF (frmS s n) f || anyF (tooS s n) f) && !anyLv s f (n + 2) (2 - n) && !anyLv s f 0 n) || (anyLv s f (n + 2) (2 - n) && (jobS s n).bottom)
theorem cov_main {s : StD} {n : Nat} (g : Wf s) (hn : n < 3) {key : ByteArray} (hin : (frmS s n).any (holdsB key) = true) {h : MetaD} (hh : h ∈ holdL s key) : covOk s n h.file = false := by
  obtain ⟨hk, q, hq, hm⟩ := mem_holdL hh
  obtain ⟨x, hx, hxk⟩ := List.any_eq_true.1 hin
  have hxk' := hxk
  simp only [holdsB, Bool.and_eq_true] at hxk'
  have hsub : frmS s n = s.lv 0 ∧ n = 0 ∨ 0 < n ∧ frmS s n = [leastM (s.lv n)] := by
    unfold frmS
    by_cases e : n = 0
    · subst e; exact .inl ⟨by rw [if_pos rfl], rfl⟩
    · exact .inr ⟨by omega, by rw [if_neg e]⟩
  have hall : h ∈ allS s := mem_allS.2 ⟨q, hq, hm⟩
  have hd : (jobS s n).bottom = true → anyLv s h.file (n + 2) (2 - n) = false := by
    intro hb
    rcases hc : anyLv s h.file (n + 2) (2 - n) with _ | _
    · rfl
    · obtain ⟨k, k1, k2, k3⟩ := (anyLv_iff _ _ _ _).1 hc
      obtain ⟨m, hmk, e⟩ := anyF_iff.1 k3
      have : m = h := uq_eq g.uq (mem_allS.2 ⟨k, by omega, hmk⟩) hall e
      subst this
      have h1 := bottom_no hb k1 (by omega) hmk
      rw [touch_of hk (sle_trans (spanA_le (List.mem_append.2 (.inl hx))) hxk'.1) (sle_trans hxk'.2 (spanZ_ge (List.mem_append.2 (.inl hx))))] at h1
      cases h1
  have hf : anyF (frmS s n) h.file = true ∨ anyF (tooS s n) h.file = true ∨ anyLv s h.file (n + 2) (2 - n) = true ∨ anyLv s h.file 0 n = true := by
    by_cases c1 : q < n
    · exact .inr (.inr (.inr ((anyLv_iff _ _ _ _).2 ⟨q, by omega, by omega, anyF_iff.2 ⟨h, hm, rfl⟩⟩)))
    · by_cases c2 : q = n
      · subst c2
        rcases hsub with ⟨e, rfl⟩ | ⟨h0, e⟩
        · exact .inl (anyF_iff.2 ⟨h, by rw [e]; exact hm, rfl⟩)
        · rw [e] at hx
          have hx' : x = leastM (s.lv q) := by simpa using hx
          have hxm : x ∈ s.lv q := by rw [hx']; exact leastM_mem _ (List.ne_nil_of_mem hm)
          have : h = x := apart_one (apartS_lv g.ap h0 hq) (fun m hm => g.good _ m hm) hm hxm hk hxk
          exact .inl (anyF_iff.2 ⟨h, by rw [e, this, hx']; simp, rfl⟩)
      · by_cases c3 : q = n + 1
        · subst c3
          refine .inr (.inl (anyF_iff.2 ⟨h, ?_, rfl⟩))
          exact List.mem_filter.2 ⟨hm, touch_of hk (sle_trans (spanA_le hx) hxk'.1) (sle_trans hxk'.2 (spanZ_ge hx))⟩
        · exact .inr (.inr (.inl ((anyLv_iff _ _ _ _).2 ⟨q, by omega, by omega, anyF_iff.2 ⟨h, hm, rfl⟩⟩)))
  unfold covOk
  rcases hb : (jobS s n).bottom with _ | _
  · rcases hf with h | h | h | h <;> simp [h]
  · have := hd hb
    rw [this] at hf ⊢
    rcases hf with h | h | h | h <;> simp_all
theorem nextD_cases {s : StD} {lim : LimD} (h : limB lim = true) : nextD s lim = (noJ, false, 0) ∨ ∃ n, n < 3 ∧ nextD s lim = (jobS s n, true, 0) ∧ fullB (s.lv n) n (fullD lim n).1 = true := by
  unfold nextD
  rw [if_neg (by rw [h]; simp)]
  simp only [nextS]
  split
  · exact .inr ⟨0, by omega, rfl, by assumption⟩
  · split
    · exact .inr ⟨1, by omega, rfl, by assumption⟩
    · split
      · exact .inr ⟨2, by omega, rfl, by assumption⟩
      · exact .inl rfl
end Go.Proofs.Ytheanmfdfoefoaa
