/- The walk over an abstract heap, texts CovDoc to Holding in one. -/
import Derived.Test.YtheanmfdfoefoaaOrd
import Derived.Test.YtheanmfdfoefoaaPickSl
import Derived.Shelf.SlicesQ.Reverse
import Derived.Ground.SlgnProg
import Derived.Test.YtheanmfdfoefoaaPickNext
set_option linter.unusedVariables false
set_option linter.unusedSimpArgs false
namespace Go.Proofs.Ytheanmfdfoefoaa
open Go Go.RowKit

def anyF (l : List MetaD) (f : Int) : Bool := l.any (·.file == f)
def anyLv (s : StD) (f : Int) (a : Nat) : Nat → Bool
  | 0 => false
  | c + 1 => anyLv s f a c || anyF (s.lv (a + c)) f
theorem anyLv_iff (s : StD) (f : Int) (a : Nat) : ∀ c, anyLv s f a c = true ↔ ∃ k, a ≤ k ∧ k < a + c ∧ anyF (s.lv k) f = true := by
  intro c
  induction c with
  | zero => simp only [anyLv]; exact ⟨fun h => by simp at h, fun ⟨k, _, _, _⟩ => by omega⟩
  | succ c ih =>
    simp only [anyLv, Bool.or_eq_true, ih]
    constructor
    · rintro (⟨k, h1, h2, h3⟩ | h)
      · exact ⟨k, h1, by omega, h3⟩
      · exact ⟨a + c, by omega, by omega, h⟩
    · rintro ⟨k, h1, h2, h3⟩
      by_cases e : k = a + c
      · subst e; exact .inr h3
      · exact .inl ⟨k, h1, by omega, h3⟩
theorem anyF_iff {l : List MetaD} {f : Int} : anyF l f = true ↔ ∃ m ∈ l, m.file = f := by unfold anyF; simp
def holdL (s : StD) (key : ByteArray) : List MetaD := ((s.lv 0).reverse ++ s.lv 1 ++ s.lv 2 ++ s.lv 3).filter (holdsB key)
theorem mem_holdL {s : StD} {key : ByteArray} {m : MetaD} (h : m ∈ holdL s key) : holdsB key m = true ∧ ∃ k, k < 4 ∧ m ∈ s.lv k := by
  obtain ⟨h1, h2⟩ := List.mem_filter.1 h
  refine ⟨h2, ?_⟩
  simp only [List.mem_append, List.mem_reverse] at h1
  rcases h1 with ((h | h) | h) | h
  · exact ⟨0, by omega, h⟩
  · exact ⟨1, by omega, h⟩
  · exact ⟨2, by omega, h⟩
  · exact ⟨3, by omega, h⟩
theorem botS_all (s : StD) (n : Nat) : ∀ j, botS s n j = true → ∀ i, i < j → deepB s n (n + 2 + i) = true := by
  intro j
  induction j with
  | zero => intro _ i hi; omega
  | succ j ih =>
    intro h i hi
    simp only [botS, Bool.and_eq_true] at h
    by_cases e : i = j
    · subst e; exact h.2
    · exact ih h.1 i (by omega)
/-- Where it is the bottom no deeper table touches. -/
theorem bottom_no {s : StD} {n : Nat} (h : (jobS s n).bottom = true) {k : Nat} (h1 : n + 2 ≤ k) (h2 : k < 4) {m : MetaD} (hm : m ∈ s.lv k) : touchB (spanA (frmS s n ++ tooS s n)) (spanZ (frmS s n ++ tooS s n)) m = false := by
  have hd := botS_all s n _ h (k - (n + 2)) (by omega)
  rw [show n + 2 + (k - (n + 2)) = k from by omega] at hd
  unfold deepB at hd
  have hd' : touchL (s.lv k) (spanA (frmS s n ++ tooS s n)) (spanZ (frmS s n ++ tooS s n)) = [] := List.eq_nil_of_length_eq_zero (by simpa using hd)
  unfold touchL at hd'
  have := List.filter_eq_nil_iff.1 hd' m hm
  simpa using this
theorem touch_of {a z key : ByteArray} {m : MetaD} (h : holdsB key m = true) (ha : sle a key = true) (hz : sle key z = true) : touchB a z m = true := by
  simp only [holdsB, Bool.and_eq_true] at h
  simp only [touchB, Bool.and_eq_true]
  refine ⟨sle_trans h.1 hz, ?_⟩
  rw [← sle_not]
  exact sle_trans ha h.2
def covOk (s : StD) (n : Nat) (f : Int) : Bool := (!(anyF (frmS s n) f || anyF (tooS s n) f) && !anyLv s f (n + 2) (2 - n) && !anyLv s f 0 n) || (anyLv s f (n + 2) (2 - n) && (jobS s n).bottom)
theorem cov_main {s : StD} {n : Nat} (g : Wf s) (hn : n < 3) {key : ByteArray} (hin : (frmS s n).any (holdsB key) = true) {h : MetaD} (hh : h ∈ holdL s key) : covOk s n h.file = false := by
  obtain ⟨hk, q, hq, hm⟩ := mem_holdL hh
  obtain ⟨x, hx, hxk⟩ := List.any_eq_true.1 hin
  have hxk' := hxk
  simp only [holdsB, Bool.and_eq_true] at hxk'
  have hsub : frmS s n = s.lv 0 ∧ n = 0 ∨ 0 < n ∧ frmS s n = [leastM (s.lv n)] := by
    unfold frmS
    by_cases e : n = 0
    · subst e; exact .inl ⟨by rw [if_pos rfl], rfl⟩
    · exact .inr ⟨by omega, by rw [if_neg e]⟩
  have hall : h ∈ allS s := mem_allS.2 ⟨q, hq, hm⟩
  have hd : (jobS s n).bottom = true → anyLv s h.file (n + 2) (2 - n) = false := by
    intro hb
    rcases hc : anyLv s h.file (n + 2) (2 - n) with _ | _
    · rfl
    · obtain ⟨k, k1, k2, k3⟩ := (anyLv_iff _ _ _ _).1 hc
      obtain ⟨m, hmk, e⟩ := anyF_iff.1 k3
      have : m = h := uq_eq g.uq (mem_allS.2 ⟨k, by omega, hmk⟩) hall e
      subst this
      have h1 := bottom_no hb k1 (by omega) hmk
      rw [touch_of hk (sle_trans (spanA_le (List.mem_append.2 (.inl hx))) hxk'.1) (sle_trans hxk'.2 (spanZ_ge (List.mem_append.2 (.inl hx))))] at h1
      cases h1
  have hf : anyF (frmS s n) h.file = true ∨ anyF (tooS s n) h.file = true ∨ anyLv s h.file (n + 2) (2 - n) = true ∨ anyLv s h.file 0 n = true := by
    by_cases c1 : q < n
    · exact .inr (.inr (.inr ((anyLv_iff _ _ _ _).2 ⟨q, by omega, by omega, anyF_iff.2 ⟨h, hm, rfl⟩⟩)))
    · by_cases c2 : q = n
      · subst c2
        rcases hsub with ⟨e, rfl⟩ | ⟨h0, e⟩
        · exact .inl (anyF_iff.2 ⟨h, by rw [e]; exact hm, rfl⟩)
        · rw [e] at hx
          have hx' : x = leastM (s.lv q) := by simpa using hx
          have hxm : x ∈ s.lv q := by rw [hx']; exact leastM_mem _ (List.ne_nil_of_mem hm)
          have : h = x := apart_one (apartS_lv g.ap h0 hq) (fun m hm => g.good _ m hm) hm hxm hk hxk
          exact .inl (anyF_iff.2 ⟨h, by rw [e, this, hx']; simp, rfl⟩)
      · by_cases c3 : q = n + 1
        · subst c3
          refine .inr (.inl (anyF_iff.2 ⟨h, ?_, rfl⟩))
          exact List.mem_filter.2 ⟨hm, touch_of hk (sle_trans (spanA_le hx) hxk'.1) (sle_trans hxk'.2 (spanZ_ge hx))⟩
        · exact .inr (.inr (.inl ((anyLv_iff _ _ _ _).2 ⟨q, by omega, by omega, anyF_iff.2 ⟨h, hm, rfl⟩⟩)))
  unfold covOk
  rcases hb : (jobS s n).bottom with _ | _
  · rcases hf with h | h | h | h <;> simp [h]
  · have := hd hb
    rw [this] at hf ⊢
    rcases hf with h | h | h | h <;> simp_all
theorem nextD_cases {s : StD} {lim : LimD} (h : limB lim = true) : nextD s lim = (noJ, false, 0) ∨ ∃ n, n < 3 ∧ nextD s lim = (jobS s n, true, 0) ∧ fullB (s.lv n) n (fullD lim n).1 = true := by
  unfold nextD
  rw [if_neg (by rw [h]; simp)]
  simp only [nextS]
  split
  · exact .inr ⟨0, by omega, rfl, by assumption⟩
  · split
    · exact .inr ⟨1, by omega, rfl, by assumption⟩
    · split
      · exact .inr ⟨2, by omega, rfl, by assumption⟩
      · exact .inl rfl
end Go.Proofs.Ytheanmfdfoefoaa
namespace Go.Proofs.Ytheanmfdfoefoaa
open Go Go.RowKit Go.Sort

section
variable {α : Type} [Inhabited α]
theorem flatK_list (enc : α → List Value) (k : Nat) (hk : ∀ x, (enc x).length = k) (d : Array α) : (flatK enc k d).toList = d.toList.flatMap enc := by
  have hl := flatMap_len hk d.toList
  apply List.ext_getElem?
  intro i
  by_cases hi : i < d.size * k
  · have hk0 : 0 < k := by
      rcases Nat.eq_zero_or_pos k with h | h
      · subst h; simp at hi
      · exact h
    have hq : i / k < d.size := Nat.div_lt_of_lt_mul (by rw [Nat.mul_comm]; exact hi)
    have hr : i % k < k := Nat.mod_lt _ hk0
    have h1 := flatMap_get hk d.toList (i / k) (i % k) (by simpa using hq) hr
    rw [show i / k * k + i % k = i from by rw [Nat.mul_comm]; exact Nat.div_add_mod i k] at h1
    rw [h1]
    have h2 := get_flatK enc k d i hi
    have h3 : i < (flatK enc k d).size := by rw [size_flatK]; exact hi
    rw [getElem!_pos (flatK enc k d) i h3] at h2
    have h4 : (flatK enc k d).toList[i]? = some (flatK enc k d)[i] := by rw [List.getElem?_eq_getElem (by simpa using h3)]; simp
    rw [h4, h2, getElem!_pos d (i / k) hq, getElem!_pos _ _ (by rw [hk]; exact hr)]
    simp
  · rw [List.getElem?_eq_none (by simp only [Array.length_toList, size_flatK]; omega), List.getElem?_eq_none (by rw [hl]; simp only [Array.length_toList]; omega)]
theorem holds_own {enc : α → List Value} {k : Nat} (hk : ∀ x, (enc x).length = k) {w : World} {base : Nat} {e : TypeId} {g c : Nat} {l : List α} (h : w.ownsRow base e k (.slice (some ⟨g, 0, none⟩) l.length c) l.length (l.flatMap enc)) :
    HoldsK enc k w g 0 l.toArray := by
  obtain ⟨h1, h2⟩ := h
  rcases h2 with ⟨h2, _⟩ | ⟨g', cap, cur, hv, hg, hh, hnc, hcm, hsz, htk⟩
  · cases h2
  · injection hv with hv _ hc
    injection hv with hv
    injection hv with hv
    subst hv hc
    intro j hj
    rw [size_flatK] at hj
    have hj' : j < (l.flatMap enc).length := by rw [flatMap_len hk]; simpa using hj
    have hjc : j < cur.size := by rw [hsz]; exact Nat.lt_of_lt_of_le (by simpa using hj) (Nat.mul_le_mul_right _ hnc)
    refine ⟨?_, by simp [World.frozen?, hh]⟩
    have e1 : (flatK enc k l.toArray)[j]! = (l.flatMap enc)[j]'hj' := by
      have h3 : j < (flatK enc k l.toArray).size := by rw [size_flatK]; exact hj
      rw [getElem!_pos (flatK enc k l.toArray) j h3]
      have := flatK_list enc k hk l.toArray
      have h4 : (flatK enc k l.toArray).toList[j]? = (l.flatMap enc)[j]? := by rw [this]
      rw [List.getElem?_eq_getElem hj', List.getElem?_eq_getElem (by simpa using h3)] at h4
      injection h4
    have e2 : (l.flatMap enc)[j]'hj' = cur[j]'hjc := by
      have h5 : (cur.toList.take (l.length * k))[j]? = (l.flatMap enc)[j]? := by rw [htk]
      rw [List.getElem?_take, if_pos (by simpa using hj), List.getElem?_eq_getElem hj', List.getElem?_eq_getElem (by simpa using hjc)] at h5
      injection h5 with h5
      rw [← h5]; simp
    rw [e1, e2]
    simp [World.cell?, hh, hjc]
theorem put_heap {enc : α → List Value} {k : Nat} {w : World} {g : Nat} {cur : Array Value} {t : TypeId} {fr : Nat × Nat} {d : Array α} (hg : w.heap[g]? = some (.cells cur t fr)) :
    (putRowK enc k w g 0 d).heap[g]? = some (.cells (putCells id 0 (flatK enc k d) cur) t fr) := by
  show (w.heap.modify g (onCells _))[g]? = _
  rw [Array.getElem?_modify, if_pos rfl, hg]
  rfl
theorem put_far {enc : α → List Value} {k : Nat} {w : World} {g b off : Nat} {d : Array α} (h : b ≠ g) : (putRowK enc k w g off d).heap[b]? = w.heap[b]? := by
  show (w.heap.modify g (onCells _))[b]? = _
  rw [Array.getElem?_modify, if_neg (fun e => h e.symm)]
theorem own_put {enc : α → List Value} {k : Nat} (hk : ∀ x, (enc x).length = k) {w : World} {base : Nat} {e : TypeId} {g c n : Nat} {xs : List Value} (h : w.ownsRow base e k (.slice (some ⟨g, 0, none⟩) n c) n xs) {d : Array α} (hd : d.size = n) :
    (putRowK enc k w g 0 d).ownsRow base e k (.slice (some ⟨g, 0, none⟩) n c) n (d.toList.flatMap enc) := by
  obtain ⟨h1, h2⟩ := h
  refine ⟨by rw [flatMap_len hk]; simp [hd], ?_⟩
  rcases h2 with ⟨h2, _⟩ | ⟨g', cap, cur, hv, hg, hh, hnc, hcm, hsz, htk⟩
  · cases h2
  · injection hv with hv _ hc
    injection hv with hv
    injection hv with hv
    subst hv hc
    right
    refine ⟨g, c, _, rfl, hg, put_heap hh, hnc, hcm, by simp [putCells, hsz], ?_⟩
    have hle : n * k ≤ cur.size := by rw [hsz]; exact Nat.mul_le_mul_right _ hnc
    have hfl := flatK_list enc k hk d
    have hln : (d.toList.flatMap enc).length = n * k := by rw [flatMap_len hk]; simp [hd]
    have hsf : (flatK enc k d).size = n * k := by rw [size_flatK, hd]
    rw [← hfl]
    apply List.ext_getElem?
    intro i
    rw [List.getElem?_take]
    by_cases hi : i < n * k
    · rw [if_pos hi]
      have hc' : i < cur.size := by omega
      have hf' : i < (flatK enc k d).size := by omega
      rw [List.getElem?_eq_getElem (by simpa [putCells] using hc'), List.getElem?_eq_getElem (by simpa using hf')]
      simp only [putCells, Array.getElem_toList, Array.getElem_mapIdx, Nat.zero_le, true_and, Nat.zero_add, Nat.sub_zero, id]
      rw [if_pos hf', getElem!_pos (flatK enc k d) i hf']
    · rw [if_neg hi, List.getElem?_eq_none (by simp only [Array.length_toList, hsf]; omega)]
theorem below_put {enc : α → List Value} {k : Nat} {B : Nat} {w0 w : World} {g off : Nat} {d : Array α} (h : Below B w0 w) (hg : B ≤ g) : Below B w0 (putRowK enc k w g off d) :=
  ⟨h.os, h.tape, h.output, by show _ ≤ (putRow id w g off _).heap.size; rw [size_putRow]; exact h.size, fun b hb => (put_far (by omega)).trans (h.block b hb)⟩
theorem below_ahead {B : Nat} {w0 w : World} (h : Below B w0 w) (n : Nat) : Below B w0 (Sort.ahead w n) := ⟨h.os, h.tape, h.output, h.size, h.block⟩
end

instance : Inhabited MetaD := ⟨⟨0, 0, ⟨#[]⟩, ⟨#[]⟩⟩⟩
shelf_lay_g SlLaysE0.n35 Slgn 35 at Try 58 as Try.revM
theorem agg_emeta (w : World) : (isAgg 51).run Try.prog w = .ok true w := Try.isAgg51 w
theorem siz_emeta (w : World) : (Go.sizeOf 51).run Try.prog w = .ok 4 w := Try.sizeOf51 w
theorem own_form {w : World} {base : Nat} {e : TypeId} {k n : Nat} {v : Value} {xs : List Value} (h : w.ownsRow base e k v n xs) : (v = .slice none 0 0 ∧ n = 0) ∨ ∃ g c, v = .slice (some ⟨g, 0, none⟩) n c ∧ base ≤ g ∧ g < w.heap.size ∧ n ≤ c ∧ c ≤ maxLen := by
  obtain ⟨_, h⟩ := h
  rcases h with h | ⟨g, cap, cur, h1, h2, h3, h4, h5, _⟩
  · exact .inl h
  · exact .inr ⟨g, cap, h1, h2, lt_of_at h3, h4, h5⟩
theorem Reverse_calls (l : List MetaD) (v : Value) (w : World) (base : Nat) (h : w.ownsRow base 51 4 v l.length (l.flatMap metaC)) (hl : l.length ≤ 1000000) :
    Calls Try.prog 58 #[v] w fun e w' => e = .returned (.tuple #[]) ∧ w'.ownsRow base 51 4 v l.length (l.reverse.flatMap metaC) ∧ ∀ w0 B, Below B w0 w → B ≤ base → Below B w0 w' := by
  rcases own_form h with ⟨rfl, hn⟩ | ⟨g, c, rfl, hg, hlt, _, _⟩
  · obtain rfl := List.eq_nil_of_length_eq_zero hn
    exact (AnyQ.slices_Reverse_empty Try.revM none 0 w).mono fun e w' ⟨he, hw⟩ => ⟨he, by subst hw; exact h, fun w0 B hb _ => by subst hw; exact hb⟩
  · refine (AnyQ.slices_Reverse Try.revM 4 agg_emeta siz_emeta metaC metaC_len metaC_one g 0 c l.toArray w (holds_own metaC_len h) (by simp; omega)).mono fun e w' ⟨he, n, hw⟩ => ⟨he, ?_, fun w0 B hb hB => ?_⟩
    · subst hw
      have := own_put (d := l.toArray.reverse) metaC_len (w := Sort.ahead w n) h (by simp)
      simpa using this
    · subst hw
      exact below_put (below_ahead hb n) (by omega)
end Go.Proofs.Ytheanmfdfoefoaa
namespace Go.Proofs.Ytheanmfdfoefoaa
open Go Go.RowKit

def lvH (s : StD) (n : Nat) : List MetaD := if n = 0 then (s.lv 0).reverse else s.lv n
def holdTo (s : StD) (key : ByteArray) : Nat → List MetaD
  | 0 => []
  | n + 1 => holdTo s key n ++ (lvH s n).filter (holdsB key)
theorem holdTo_all (s : StD) (key : ByteArray) : holdTo s key 4 = holdL s key := by
  simp [holdTo, holdL, lvH]
theorem holdTo_len (s : StD) (key : ByteArray) (h : ∀ n, n < 4 → (s.lv n).length ≤ 100000) : ∀ n, n ≤ 4 → (holdTo s key n).length ≤ n * 100000 := by
  intro n
  induction n with
  | zero => intro _; simp [holdTo]
  | succ n ih =>
    intro hn
    have h1 := ih (by omega)
    have h2 : (lvH s n).length ≤ 100000 := by
      unfold lvH; split
      · rw [List.length_reverse]; exact h 0 (by omega)
      · exact h n (by omega)
    have h3 := List.length_filter_le (holdsB key) (lvH s n)
    simp only [holdTo, List.length_append]
    omega
theorem idxE (v0 v1 v2 v3 : Value) (w : World) :
    (Instr.index 31 (.agg #[v0, v1, v2, v3]) (.int .i64 0)).run Try.prog w = .ok v0 w ∧ (Instr.index 31 (.agg #[v0, v1, v2, v3]) (.int .i64 1)).run Try.prog w = .ok v1 w ∧
    (Instr.index 31 (.agg #[v0, v1, v2, v3]) (.int .i64 2)).run Try.prog w = .ok v2 w ∧ (Instr.index 31 (.agg #[v0, v1, v2, v3]) (.int .i64 3)).run Try.prog w = .ok v3 w :=
  ⟨by kernel_rfl, by kernel_rfl, by kernel_rfl, by kernel_rfl⟩
set_option maxRecDepth 100000 in
set_option maxHeartbeats 1000000 in
theorem Holding_calls (s : StD) (f : Nat → Value) (key : ByteArray) (w : World) (hf : RdLv w f s) (hl : ∀ n, n < 4 → (s.lv n).length ≤ 100000) :
    Calls Try.prog 24 #[.agg #[.int .i64 s.log, .int .i64 s.next, .int .i64 s.seq, f 0, f 1, f 2, f 3], .string key] w fun e w' => ∃ v', e = .returned v' ∧ w'.ownsRow w.heap.size 51 4 v' (holdL s key).length ((holdL s key).flatMap metaC) ∧ Below w.heap.size w w' := by
  have HF := Lib.hid hf
  have HL := Lib.hid hl
  have HT := Lib.hid (holdTo_len s key hl)
  obtain ⟨A0, c0, e0, _, _⟩ := (hf 0 (by omega)).len
  obtain ⟨A1, c1, e1, _, _⟩ := (hf 1 (by omega)).len
  obtain ⟨A2, c2, e2, _, _⟩ := (hf 2 (by omega)).len
  obtain ⟨A3, c3, e3, _, _⟩ := (hf 3 (by omega)).len
  have H0 := hf 0 (by omega); have H1 := hf 1 (by omega); have H2 := hf 2 (by omega); have H3 := hf 3 (by omega)
  rw [e0] at H0; rw [e1] at H1; rw [e2] at H2; rw [e3] at H3
  rw [e0, e1, e2, e3]
  clear hf hl e0 e1 e2 e3 HF
  replace H0 := Lib.hid H0; replace H1 := Lib.hid H1; replace H2 := Lib.hid H2; replace H3 := Lib.hid H3
  go_enter Try.func24, Try.ntmps24
  go_wp2_with fail
  go_loopw [5, 12] (fun ov iv wr => ∃ k : Nat, k ≤ 4 ∧ iv = .int .i64 (k : Int) ∧ Hid (wr.ownsRow w.heap.size 51 4 ov (holdTo s key k).length ((holdTo s key k).flatMap metaC)) ∧ Hid (Below w.heap.size w wr) ∧ Hid (k = 0 → ov = .slice none 0 0))
    (fun _ iv _ => 4 - (intOf iv).toNat)
  case atStart => exact ⟨0, by omega, rfl, World.ownsRow_nil _ _ _ _, (Below.refl _ _).alloc (Nat.le_refl _) _, fun _ => rfl⟩
  case round =>
    obtain ⟨k, hk, rfl, hown, hb, hn0⟩ := hrel
    obtain ⟨wo, rfl⟩ : ∃ wo : World, wo = wr := ⟨_, rfl⟩
    have hsz := hb.out.size
    obtain rfl | rfl | rfl | rfl | rfl : k = 0 ∨ k = 1 ∨ k = 2 ∨ k = 3 ∨ k = 4 := by omega
    case' inl =>
      have h0l := HL.out 0 (by omega)
      have hn1 := hn0.out rfl
      subst hn1
      clear hn0
      have hi := fun W => (idxE (.slice A0 (s.lv 0).length c0) (.slice A1 (s.lv 1).length c1) (.slice A2 (s.lv 2).length c2) (.slice A3 (s.lv 3).length c3) W).1
      go_wp2_with fail
      refine (Clone_calls (s.lv 0) _ wo (H0.out.below hb.out) (by omega)).mono ?_
      rintro e w1 ⟨v1, rfl, ho1, hb1⟩
      go_wp2_with fail
      refine (Reverse_calls (s.lv 0) v1 w1 wo.heap.size ho1 (by omega)).mono ?_
      rintro e w2 ⟨rfl, ho2, hb2⟩
      have hbb := hb.out.trans ((hb2 _ _ hb1 (Nat.le_refl _)).mono hsz)
      have hL : RdT w2 4 metaC v1 (s.lv 0).reverse := by have := Rd.of_own ho2; unfold RdT; rwa [List.length_reverse]
      clear hb ho1 ho2 hb1 hb2 hsz
      obtain ⟨L, hLe⟩ : ∃ L, L = (s.lv 0).reverse := ⟨_, rfl⟩
      have hLlen : L.length ≤ 100000 := by rw [hLe, List.length_reverse]; exact h0l
      rw [← hLe] at hL
      have hnx : Hid (holdTo s key 1 = holdTo s key 0 ++ L.filter (holdsB key)) := by show _ = _; rw [hLe]; rfl
      have hle := HT.out 0 (by omega)
      have hown0 : Hid (∀ W : World, W.ownsRow W.heap.size 51 4 (.slice none 0 0) (holdTo s key 0).length ((holdTo s key 0).flatMap metaC)) := fun W => World.ownsRow_nil _ _ _ _
      clear hown
      generalize holdTo s key 0 = acc at *
      clear hLe h0l
      obtain ⟨A, c, rfl, hnc, hcm⟩ := hL.len
      obtain ⟨W, rfl⟩ : ∃ W : World, W = w2 := ⟨_, rfl⟩
      replace hbb := Lib.hid hbb
      obtain ⟨bs, hbs1, hbs2, hown2, hLB⟩ : ∃ bs, w.heap.size ≤ bs ∧ bs ≤ W.heap.size ∧ Hid (W.ownsRow bs 51 4 (.slice none 0 0) acc.length (acc.flatMap metaC)) ∧ Hid (∀ wr, Below bs W wr → RdT wr 4 metaC (.slice A L.length c) L) :=
        ⟨W.heap.size, hbb.out.size, Nat.le_refl _, hown0.out W, fun wr h => RdT.below hL h⟩
      clear hL
      go_wp2_with fail
    case' inr.inl =>
      have hbb := hb
      have hown2 := hown
      have hL := Lib.hid (H1.out.below hb.out)
      have hLlen := HL.out 1 (by omega)
      obtain ⟨A, c, e, hnc, hcm⟩ := hL.out.len
      injection e with e1 _ e2; subst e1 e2
      have hnx : Hid (holdTo s key 2 = holdTo s key 1 ++ (s.lv 1).filter (holdsB key)) := rfl
      have hle := HT.out 1 (by omega)
      generalize holdTo s key 1 = acc at *
      clear hb hown hsz
      have hi := fun W => (idxE (.slice A0 (s.lv 0).length c0) (.slice A1 (s.lv 1).length c1) (.slice A2 (s.lv 2).length c2) (.slice A3 (s.lv 3).length c3) W).2.1
      generalize s.lv 1 = L at *
      obtain ⟨W, rfl⟩ : ∃ W : World, W = wo := ⟨_, rfl⟩
      obtain ⟨bs, hbs1, hbs2, hown2, hLB⟩ : ∃ bs, w.heap.size ≤ bs ∧ bs ≤ W.heap.size ∧ Hid (W.ownsRow bs 51 4 u5 acc.length (acc.flatMap metaC)) ∧ Hid (∀ wr, Below bs W wr → RdT wr 4 metaC (.slice A1 L.length c1) L) :=
        ⟨w.heap.size, Nat.le_refl _, hbb.out.size, hown2, fun wr h => H1.out.below (hbb.out.trans h)⟩
      clear hL
      go_wp2_with fail
    case' inr.inr.inl =>
      have hbb := hb
      have hown2 := hown
      have hL := Lib.hid (H2.out.below hb.out)
      have hLlen := HL.out 2 (by omega)
      obtain ⟨A, c, e, hnc, hcm⟩ := hL.out.len
      injection e with e1 _ e2; subst e1 e2
      have hnx : Hid (holdTo s key 3 = holdTo s key 2 ++ (s.lv 2).filter (holdsB key)) := rfl
      have hle := HT.out 2 (by omega)
      generalize holdTo s key 2 = acc at *
      clear hb hown hsz
      have hi := fun W => (idxE (.slice A0 (s.lv 0).length c0) (.slice A1 (s.lv 1).length c1) (.slice A2 (s.lv 2).length c2) (.slice A3 (s.lv 3).length c3) W).2.2.1
      generalize s.lv 2 = L at *
      obtain ⟨W, rfl⟩ : ∃ W : World, W = wo := ⟨_, rfl⟩
      obtain ⟨bs, hbs1, hbs2, hown2, hLB⟩ : ∃ bs, w.heap.size ≤ bs ∧ bs ≤ W.heap.size ∧ Hid (W.ownsRow bs 51 4 u5 acc.length (acc.flatMap metaC)) ∧ Hid (∀ wr, Below bs W wr → RdT wr 4 metaC (.slice A2 L.length c2) L) :=
        ⟨w.heap.size, Nat.le_refl _, hbb.out.size, hown2, fun wr h => H2.out.below (hbb.out.trans h)⟩
      clear hL
      go_wp2_with fail
    case' inr.inr.inr.inl =>
      have hbb := hb
      have hown2 := hown
      have hL := Lib.hid (H3.out.below hb.out)
      have hLlen := HL.out 3 (by omega)
      obtain ⟨A, c, e, hnc, hcm⟩ := hL.out.len
      injection e with e1 _ e2; subst e1 e2
      have hnx : Hid (holdTo s key 4 = holdTo s key 3 ++ (s.lv 3).filter (holdsB key)) := rfl
      have hle := HT.out 3 (by omega)
      generalize holdTo s key 3 = acc at *
      clear hb hown hsz
      have hi := fun W => (idxE (.slice A0 (s.lv 0).length c0) (.slice A1 (s.lv 1).length c1) (.slice A2 (s.lv 2).length c2) (.slice A3 (s.lv 3).length c3) W).2.2.2
      generalize s.lv 3 = L at *
      obtain ⟨W, rfl⟩ : ∃ W : World, W = wo := ⟨_, rfl⟩
      obtain ⟨bs, hbs1, hbs2, hown2, hLB⟩ : ∃ bs, w.heap.size ≤ bs ∧ bs ≤ W.heap.size ∧ Hid (W.ownsRow bs 51 4 u5 acc.length (acc.flatMap metaC)) ∧ Hid (∀ wr, Below bs W wr → RdT wr 4 metaC (.slice A3 L.length c3) L) :=
        ⟨w.heap.size, Nat.le_refl _, hbb.out.size, hown2, fun wr h => H3.out.below (hbb.out.trans h)⟩
      clear hL
      go_wp2_with fail
    case inr.inr.inr.inr =>
      obtain ⟨A2, c2, hov, _, _, _, _⟩ := Rd.of_own hown.out
      have hown' := hown.out
      rw [hov] at hown'
      subst hov
      go_wp2_with fail
      go_ret
      rw [holdTo_all] at hown'
      exact ⟨_, by rw [← holdTo_all]; rfl, hown', hb.out⟩
    all_goals
      clear hi
      go_loopw [5, 24] (fun ov iv wr => ∃ q : Nat, q ≤ L.length ∧ iv = .int .i64 (q : Int) ∧ wr.ownsRow bs 51 4 ov (acc ++ (L.take q).filter (holdsB key)).length ((acc ++ (L.take q).filter (holdsB key)).flatMap metaC) ∧ Below bs W wr)
        (fun _ iv _ => L.length - (intOf iv).toNat)
      case atStart => exact ⟨0, Nat.zero_le _, rfl, own_cast hown2.out (by simp) (by simp), Below.refl _ _⟩
      case round =>
        clear hown2
        obtain ⟨q, hq, rfl, hown, hb⟩ := hrel
        have hsz : bs ≤ wr.heap.size := Nat.le_trans hbs2 hb.size
        by_cases hql : q < L.length
        · have hql' : (q : Int) < L.length := by omega
          have h0 : (0 : Int) ≤ q := by omega
          obtain ⟨b, off, m, hA, hblt, hm, c0, c1, p2, c3⟩ := atMeta (hLB.out _ hb) (Below.refl _ _) hql
          subst hA
          have hw : (L.take (q + 1)).filter (holdsB key) = (L.take q).filter (holdsB key) ++ if holdsB key m then [m] else [] := by
            rw [filter_next hql, hm.out]
          have hle2 : ((L.take q).filter (holdsB key)).length ≤ q := Nat.le_trans (List.length_filter_le _ _) (by simp; omega)
          have hle3 : (acc ++ (L.take q).filter (holdsB key)).length ≤ 500000 := by rw [List.length_append]; omega
          have hw2 : acc ++ (L.take (q + 1)).filter (holdsB key) = (acc ++ (L.take q).filter (holdsB key)) ++ if holdsB key m then [m] else [] := by rw [hw, List.append_assoc]
          clear hw hle2
          replace hw2 := Lib.hid hw2
          generalize acc ++ (L.take q).filter (holdsB key) = ac2 at *
          have ht : holdsB key m = ((Op.bytesLess m.first.toList key.toList || m.first.toList == key.toList) && (Op.bytesLess key.toList m.last.toList || key.toList == m.last.toList)) := rfl
          obtain ⟨b1, hb1⟩ : ∃ b1, (Op.bytesLess m.first.toList key.toList || m.first.toList == key.toList) = b1 := ⟨_, rfl⟩
          obtain ⟨b2, hb2⟩ : ∃ b2, (Op.bytesLess key.toList m.last.toList || key.toList == m.last.toList) = b2 := ⟨_, rfl⟩
          rw [hb1, hb2] at ht
          replace ht := Lib.hid ht
          replace hm := Lib.hid hm
          by_cases hyes : b1 = true ∧ b2 = true
          · obtain ⟨rfl, rfl⟩ := hyes
            go_wp2_with (at_builtin; refine wpL_app et_emeta (.tmp 38) (.tmp 40) rfl rfl ((hown.alloc _).alloc _) rfl rfl (src_blk (sz := 4) (cs := metaC m) (e := 51) (fr := (0, 0)) Try.underlying30 (new_at (by simp)) rfl (metaC_one _)) (by omega) (by simp; omega) ?_; intro v1 w1 hown1 hg1 hat1)
            go_roundw
            case rel => exact ⟨q + 1, by omega, by go_num, own_cast hown1 (by rw [hw2.out, ht.out]; simp) (by rw [hw2.out, ht.out]; simp), below_app ((hb.alloc hsz _).alloc (by simp; omega) _) hg1 ((hown.alloc _).alloc _) (Nat.le_refl _) (by simp; omega)⟩
            case measure => simp [intOf]; omega
          · have hno : Hid (holdsB key m = false) := by
              show _ = _
              rw [ht.out]
              cases b1 <;> cases b2 <;> simp_all
            have hnb : b1 = false ∨ (b1 = true ∧ b2 = false) := by cases b1 <;> cases b2 <;> simp_all
            clear hyes
            rcases hnb with rfl | ⟨rfl, rfl⟩
            all_goals
              go_wp2_with fail
              go_roundw
              case rel => exact ⟨q + 1, by omega, by go_num, own_cast (hown.alloc _) (by rw [hw2.out, hno.out]; simp) (by rw [hw2.out, hno.out]; simp), hb.alloc hsz _⟩
              case measure => simp [intOf]; omega
        · obtain rfl : q = L.length := by omega
          rw [List.take_length, ← hnx.out] at hown
          have hown := own_below hown (Below.refl _ _) hbs1
          have hb := hbb.out.trans (hb.mono hbs1)
          go_wp2_with fail
          go_roundw
          case rel => first | exact ⟨1, by omega, by go_num, hown, hb, fun h => by cases h⟩ | exact ⟨2, by omega, by go_num, hown, hb, fun h => by cases h⟩ | exact ⟨3, by omega, by go_num, hown, hb, fun h => by cases h⟩ | exact ⟨4, by omega, by go_num, hown, hb, fun h => by cases h⟩
          case measure => simp [intOf]
end Go.Proofs.Ytheanmfdfoefoaa
