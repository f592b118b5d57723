/- TxnBounds, plain: what two hundred changes are, and what Looks has. -/
import Derived.Test.YtnaiaacgcjikiaaTxL
import Derived.Test.YtnaiaacgcjikiaaTxFirst
set_option linter.unusedVariables false
set_option linter.unusedSimpArgs false
namespace Go.Proofs.Ytnaiaacgcjikiaa
open Go Go.RowKit Hv
set_option maxRecDepth 20000
theorem len_le {α : Type} [DecidableEq α] : ∀ {a b : List α}, a.Nodup → (∀ x ∈ a, x ∈ b) → a.length ≤ b.length
  | [], b, _, _ => Nat.zero_le _
  | y :: a, b, hn, hs => by
    have hy : y ∈ b := hs y List.mem_cons_self
    have hle := List.length_erase_of_mem hy
    have hpos := List.length_pos_of_mem hy
    have := len_le (List.nodup_cons.1 hn).2 (b := b.erase y) fun z hz => by
      have hzy : z ≠ y := fun e => (List.nodup_cons.1 hn).1 (e ▸ hz)
      exact (List.mem_erase_of_ne hzy).2 (hs z (List.mem_cons_of_mem _ hz))
    simp only [List.length_cons]; omega
def mkT (i : Nat) : TxnD := ⟨(i : Int), false, [], 0⟩
def openD (i : Nat) : SysD := ⟨([], 0), (List.range i).map mkT⟩
theorem openD_begun (i : Nat) : (openD i).begun (i : Int) = openD (i + 1) := by
  unfold SysD.begun openD
  rw [List.range_succ, List.map_append]; rfl
theorem openN_openD (i : Nat) : openN (openD i) = i := by
  rw [openN_all fun t ht => by
    obtain ⟨j, _, rfl⟩ := List.mem_map.1 ht
    rfl]
  simp [openD]
def cutD (k : Nat) : SysD := (openD 16).ended k (mkT k) ([], 0)
theorem cutD_open : ∀ k, k < 16 → openN (cutD k) = 15 := by decide +kernel
theorem cutD_starts : ∀ k, k < 16 → (((cutD k).txns.filter fun t => !t.over).map (·.start)).length = 15 ∧ (((cutD k).txns.filter fun t => !t.over).map (·.start)).Nodup := by decide +kernel
theorem cutD_bound : ∀ k, k < 16 → ∀ t ∈ (cutD k).txns, -9223372036854775808 ≤ t.start ∧ t.start ≤ 9223372036854775807 := by
  intro k hk t ht
  obtain ⟨i, hi⟩ := List.mem_iff_getElem?.1 ht
  have hs : t ∈ (openD 16).txns ∨ t = (mkT k).ended := List.mem_or_eq_of_mem_set ht
  rcases hs with hs | rfl
  · obtain ⟨j, hj, rfl⟩ := List.mem_map.1 hs
    have := List.mem_range.1 hj
    exact ⟨by show _ ≤ (j : Int); omega, by show (j : Int) ≤ _; omega⟩
  · exact ⟨by show _ ≤ (k : Int); omega, by show (k : Int) ≤ _; omega⟩
theorem cutD_looks {k : Nat} (hk : k < 16) {l : List Int} (h : LooksL (cutD k) l) : l.length = 15 := by
  obtain ⟨h1, h2⟩ := cutD_starts k hk
  obtain ⟨A, hA⟩ : ∃ A, A = ((cutD k).txns.filter fun t => !t.over).map (·.start) := ⟨_, rfl⟩
  rw [← hA] at h1 h2
  have hm : ∀ z, z ∈ A ↔ z ∈ l := fun z => by
    rw [hA, h.mem, List.mem_map]
    constructor
    · rintro ⟨t, ht, rfl⟩
      obtain ⟨h3, h4⟩ := List.mem_filter.1 ht
      exact ⟨t, h3, by simpa using h4, rfl⟩
    · rintro ⟨t, h3, h4, rfl⟩
      exact ⟨t, List.mem_filter.2 ⟨h3, by simpa using h4⟩, rfl⟩
  have hn : l.Nodup := h.rise.imp fun hlt e => by omega
  have := len_le h2 fun x hx => (hm x).1 hx
  have := len_le hn fun x hx => (hm x).2 hx
  omega
def keyK (i : Nat) : ByteArray := ⟨#[107, UInt8.ofNat i]⟩
theorem keyK_size (i : Nat) : (keyK i).size = 2 := rfl
theorem keyK_inj {i j : Nat} (hi : i < 256) (hj : j < 256) (h : keyK i = keyK j) : i = j := by
  unfold keyK at h
  injection h with h
  injection h with h
  injection h with _ h
  injection h with h
  have := congrArg UInt8.toNat h
  rw [UInt8.toNat_ofNat', UInt8.toNat_ofNat'] at this
  omega
def nmK (i : Nat) : Nm := ⟨keyK i, by rw [keyK_size]; omega⟩
structure Puts (j : Nat) (t : TxnD) : Prop where
  st : t.start = 99
  ov : t.over = false
  len : t.ops.length = j
  all : ∀ e ∈ t.ops, ∃ i, i < j ∧ e.key = nmK i
  has : ∀ i, i < j → lookE t.ops (nmK i) ≠ none
theorem Puts.zero : Puts 0 ⟨99, false, [], 0⟩ := ⟨rfl, rfl, rfl, fun e he => absurd he List.not_mem_nil, fun i hi => absurd hi (Nat.not_lt_zero _)⟩
theorem Puts.next {j : Nat} {t : TxnD} (h : Puts j t) (hj : j < 200) (v : ByteArray) (hv : v.size ≤ 1000) (kind : Int) : chErr t ⟨kind, keyK j, v⟩ = 0 ∧ Puts (j + 1) (chTxn t ⟨kind, keyK j, v⟩) := by
  have hs : (keyK j).size = 2 := rfl
  have hnone : lookE t.ops (nmK j) = none := lookE_none.2 fun e he hk => by
    obtain ⟨i, hi, hik⟩ := h.all e he
    have := congrArg Subtype.val (hik.symm.trans hk)
    have := keyK_inj (by omega) (by omega) this
    omega
  have e1 : chErr t ⟨kind, keyK j, v⟩ = 0 := by
    unfold chErr
    rw [if_neg (by rw [h.ov]; simp), if_neg (by show ¬ (64 < (keyK j).size ∨ 1000 < v.size); omega), if_neg (by show ¬ (keyK j).size = 0; omega), dif_pos (by show (keyK j).size ≤ 64; omega), if_neg fun hh => by have := h.len; have := hh.2; omega]
  have e2 : chTxn t ⟨kind, keyK j, v⟩ = ⟨t.start, t.over, (putE t.ops t.oc (nmK j) ⟨kind, keyK j, v⟩).1, (putE t.ops t.oc (nmK j) ⟨kind, keyK j, v⟩).2⟩ := by
    unfold chTxn
    rw [e1, if_pos rfl, dif_pos (by show (keyK j).size ≤ 64; omega)]; rfl
  refine ⟨e1, ?_⟩
  rw [e2]
  refine ⟨h.st, h.ov, ?_, fun e he => ?_, fun i hi => ?_⟩
  · show (putE _ _ _ _).1.length = _
    rw [put_new _ hnone, List.length_append, h.len]; rfl
  · have he' : e ∈ (putE t.ops t.oc (nmK j) ⟨kind, keyK j, v⟩).1 := he
    rw [put_new _ hnone] at he'
    rcases List.mem_append.1 he' with he' | he'
    · obtain ⟨i, hi, hk⟩ := h.all e he'
      exact ⟨i, by omega, hk⟩
    · rw [List.mem_singleton.1 he']
      exact ⟨j, by omega, rfl⟩
  · show lookE (putE _ _ _ _).1 _ ≠ none
    rw [lookE_put]
    by_cases hij : nmK i = nmK j
    · rw [if_pos hij]; exact fun hh => by cases hh
    · rw [if_neg hij]
      refine h.has i ?_
      rcases Nat.lt_or_ge i j with hh | hh
      · exact hh
      · exact absurd (by rw [show i = j by omega]) hij
theorem Puts.full {t : TxnD} (h : Puts 200 t) {o : OpD} (hk : o.key.size = 5) (hv : o.val.size ≤ 1000) : chErr t o = 14 ∧ chTxn t o = t := by
  have e1 : chErr t o = 14 := by
    unfold chErr
    rw [if_neg (by rw [h.ov]; simp), if_neg (by omega), if_neg (by omega), dif_pos (by omega), if_pos]
    refine ⟨lookE_none.2 fun e he hke => ?_, by rw [h.len]; exact Nat.le_refl _⟩
    obtain ⟨i, _, hi⟩ := h.all e he
    have := congrArg (fun x : Nm => x.1.size) (hi.symm.trans hke)
    simp only [nmK, keyK_size] at this
    omega
  exact ⟨e1, by unfold chTxn; rw [e1, if_neg (by decide)]⟩
theorem Puts.again {t : TxnD} (h : Puts 200 t) {k : Nat} (hk : k < 200) (v : ByteArray) (hv : v.size ≤ 1000) (kind : Int) : chErr t ⟨kind, keyK k, v⟩ = 0 ∧ (chTxn t ⟨kind, keyK k, v⟩).start = 99 ∧ (chTxn t ⟨kind, keyK k, v⟩).over = false ∧ (chTxn t ⟨kind, keyK k, v⟩).ops.length = 200 := by
  have hs : (keyK k).size = 2 := rfl
  have hne := h.has k hk
  have e1 : chErr t ⟨kind, keyK k, v⟩ = 0 := by
    unfold chErr
    rw [if_neg (by rw [h.ov]; simp), if_neg (by show ¬ (64 < (keyK k).size ∨ 1000 < v.size); omega), if_neg (by show ¬ (keyK k).size = 0; omega), dif_pos (by show (keyK k).size ≤ 64; omega), if_neg fun hh => hne hh.1]
  refine ⟨e1, (chTxn_start _ _).trans h.st, (chTxn_over _ _).trans h.ov, ?_⟩
  have e2 : chTxn t ⟨kind, keyK k, v⟩ = ⟨t.start, t.over, (putE t.ops t.oc (nmK k) ⟨kind, keyK k, v⟩).1, (putE t.ops t.oc (nmK k) ⟨kind, keyK k, v⟩).2⟩ := by
    unfold chTxn
    rw [e1, if_pos rfl, dif_pos (by show (keyK k).size ≤ 64; omega)]; rfl
  rw [e2]
  show (putE _ _ _ _).1.length = _
  rcases find_cases t.ops (nmK k) with ⟨_, h2, _⟩ | ⟨i, x, h1, h2, h3, h4, _⟩
  · exact absurd h2 hne
  · rw [put_old _ h1 h2, List.length_set, h.len]
theorem comErr_big {D : SysD} {t : TxnD} (h1 : t.start = 99) (h2 : t.over = false) (h3 : t.ops.length = 200) : D.comErr t 72057594037927935 = 1 := by
  have hl : (opsOf t).length = 200 := by unfold opsOf; rw [h2]; simp only [Bool.false_eq_true, if_false]; rw [opsL_len, h3]
  unfold SysD.comErr
  rw [if_pos]
  rw [hl]; exact .inr (.inr (by decide))
theorem comErr_fits {D : SysD} {t : TxnD} (hD : D.notes = ([], 0)) (h1 : t.start = 99) (h2 : t.over = false) (h3 : t.ops.length = 200) : D.comErr t 72057594037927736 = 0 := by
  have hl : (opsOf t).length = 200 := by unfold opsOf; rw [h2]; simp only [Bool.false_eq_true, if_false]; rw [opsL_len, h3]
  have hc : D.clash t = false := by
    unfold SysD.clash
    rw [Bool.and_eq_false_iff]
    right
    rw [List.any_eq_false]
    intro e he
    rw [hD, h1]
    simp [lookE]
  unfold SysD.comErr
  rw [if_neg (by rw [hl, h1]; omega), h2, hc]; rfl
end Go.Proofs.Ytnaiaacgcjikiaa
