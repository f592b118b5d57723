/- Edit: the map of places against the levels. Plain: no program in sight. -/
import Derived.Test.YtheanmfdfoefoaaEdLaw
namespace Go.Proofs.Ytheanmfdfoefoaa
open Go Go.RowKit Hv

instance : DecidableEq PlD := fun a b =>
  if h : a.level = b.level ∧ a.file = b.file then .isTrue (by cases a; cases b; simp only [PlD.mk.injEq]; exact h) else .isFalse fun e => h (by rw [e]; exact ⟨rfl, rfl⟩)
def plA (p : PlD) : AV := .agg (plH p)
def metaA (m : MetaD) : AV := .agg (metaH m)
theorem keyOk_pl : KeyOk plA := fun a b => by
  unfold plA plH
  simp only [keyEq, keyCells, keyCell, if_true, Bool.and_true]
  congr 1
  rw [Bool.eq_iff_iff]
  simp only [Bool.and_eq_true, beq_iff_eq, decide_eq_true_eq]
  cases a; cases b; simp only [PlD.mk.injEq]
abbrev PlM := Ent PlD MetaD
def kv (x : PlM) : PlD × MetaD := (x.key, x.val)
def lvP (n : Nat) (l : List MetaD) : List (PlD × MetaD) := l.map fun m => (⟨(n : Int), m.file⟩, m)
/-- The places of the levels below n. -/
def placedTo (s : StD) : Nat → List (PlD × MetaD)
  | 0 => []
  | n + 1 => placedTo s n ++ lvP n (s.lv n)
def placed (s : StD) : List (PlD × MetaD) := placedTo s 4
theorem placed_four (s : StD) : placed s = lvP 0 (s.lv 0) ++ lvP 1 (s.lv 1) ++ lvP 2 (s.lv 2) ++ lvP 3 (s.lv 3) := by
  simp [placed, placedTo]
theorem placed_len (s : StD) : (placed s).length = countS s := by
  rw [placed_four]; simp [lvP, countS]; omega
theorem mem_lvP {n : Nat} {l : List MetaD} {x : PlD × MetaD} : x ∈ lvP n l ↔ x.2 ∈ l ∧ x.1 = ⟨(n : Int), x.2.file⟩ := by
  unfold lvP
  rw [List.mem_map]
  constructor
  · rintro ⟨m, hm, rfl⟩; exact ⟨hm, rfl⟩
  · rintro ⟨h1, h2⟩; exact ⟨x.2, h1, by rw [← h2]⟩
theorem mem_placed {s : StD} {x : PlD × MetaD} : x ∈ placed s ↔ ∃ n, n < 4 ∧ x.2 ∈ s.lv n ∧ x.1 = ⟨(n : Int), x.2.file⟩ := by
  rw [placed_four]
  simp only [List.mem_append, mem_lvP]
  constructor
  · rintro (((h | h) | h) | h)
    · exact ⟨0, by omega, h⟩
    · exact ⟨1, by omega, h⟩
    · exact ⟨2, by omega, h⟩
    · exact ⟨3, by omega, h⟩
  · rintro ⟨n, hn, h⟩
    obtain rfl | rfl | rfl | rfl : n = 0 ∨ n = 1 ∨ n = 2 ∨ n = 3 := by omega
    · exact .inl (.inl (.inl h))
    · exact .inl (.inl (.inr h))
    · exact .inl (.inr h)
    · exact .inr h
/-- The map's entries are the levels' tables. -/
def Rel (es : List PlM) (s : StD) : Prop := (es.map kv).Perm (placed s)
theorem Rel.mem {es : List PlM} {s : StD} (h : Rel es s) (p : PlD) (m : MetaD) : (∃ x ∈ es, x.key = p ∧ x.val = m) ↔ ∃ n, n < 4 ∧ m ∈ s.lv n ∧ p = ⟨(n : Int), m.file⟩ := by
  have := h.mem_iff (a := (p, m))
  rw [mem_placed, List.mem_map] at this
  rw [← this]
  constructor
  · rintro ⟨x, hx, rfl, rfl⟩; exact ⟨x, hx, rfl⟩
  · rintro ⟨x, hx, e⟩
    unfold kv at e
    injection e with e1 e2
    exact ⟨x, hx, e1, e2⟩
theorem Rel.count {es : List PlM} {s : StD} (h : Rel es s) : es.length = countS s := by
  rw [← placed_len, ← h.length_eq, List.length_map]
theorem plB_lv {p : PlD} (h : plB p = true) : ∃ n : Nat, n < 4 ∧ p.level = (n : Int) ∧ p.level.toNat = n := by
  simp only [plB, Bool.and_eq_true, decide_eq_true_eq] at h
  exact ⟨p.level.toNat, by omega, by omega, rfl⟩
theorem addB_lv {a : AddD} (h : addB a = true) : ∃ n : Nat, n < 4 ∧ a.level = (n : Int) ∧ a.level.toNat = n := by
  simp only [addB, Bool.and_eq_true, decide_eq_true_eq] at h
  exact ⟨a.level.toNat, by omega, by omega, rfl⟩
theorem without_lt {l : List MetaD} {f : Int} : (withoutL l f).length < l.length ↔ ∃ m ∈ l, m.file = f := by
  unfold withoutL
  constructor
  · intro h
    refine Classical.byContradiction fun hn => ?_
    have : l.filter (fun m => m.file != f) = l := List.filter_eq_self.2 fun m hm => by
      have : m.file ≠ f := fun e => hn ⟨m, hm, e⟩
      simpa using this
    rw [this] at h; omega
  · rintro ⟨m, hm, hf⟩
    rw [List.length_filter_lt_length_iff_exists]
    exact ⟨m, hm, by simp [hf]⟩
/-- A place is in the map just if its level has the file. -/
theorem rel_look {es : List PlM} {s : StD} (h : Rel es s) {p : PlD} (hp : plB p = true) : (lookE es p = none ↔ ¬ (withoutL (s.lv p.level.toNat) p.file).length < (s.lv p.level.toNat).length) := by
  obtain ⟨n, hn, hl, hnn⟩ := plB_lv hp
  rw [without_lt, hnn, lookE_none]
  constructor
  · rintro h1 ⟨m, hm, hf⟩
    obtain ⟨x, hx, hk, _⟩ := (h.mem p m).2 ⟨n, hn, hm, by cases p; simp only at hl hf ⊢; rw [hl, hf]⟩
    exact h1 x hx hk
  · intro h1 x hx hk
    obtain ⟨k, hk4, hm, hpe⟩ := (h.mem p x.val).1 ⟨x, hx, hk, rfl⟩
    have e1 : p.level = (k : Int) := by rw [hpe]
    have e2 : p.file = x.val.file := by rw [hpe]
    have : k = n := by omega
    subst this
    exact h1 ⟨x.val, hm, e2.symm⟩
theorem lvP_filter_same {n : Nat} {l : List MetaD} {f : Int} : (lvP n l).filter (fun x => !decide (x.1 = ⟨(n : Int), f⟩)) = lvP n (withoutL l f) := by
  unfold lvP withoutL
  rw [List.filter_map]
  congr 1
  apply List.filter_congr
  intro m _
  simp only [Function.comp, PlD.mk.injEq, true_and]
  by_cases h : m.file = f <;> simp [h]
theorem lvP_filter_other {n k : Nat} {l : List MetaD} {f : Int} (h : k ≠ n) : (lvP k l).filter (fun x => !decide (x.1 = ⟨(n : Int), f⟩)) = lvP k l := by
  refine List.filter_eq_self.2 fun x hx => ?_
  obtain ⟨_, h2⟩ := mem_lvP.1 hx
  have : x.1 ≠ ⟨(n : Int), f⟩ := fun e => by
    rw [h2] at e
    injection e with e _
    omega
  simp [this]
theorem placed_gone (s : StD) (n : Nat) (hn : n < 4) (f : Int) : placed (s.with n (withoutL (s.lv n) f)) = (placed s).filter fun x => !decide (x.1 = ⟨(n : Int), f⟩) := by
  rw [placed_four, placed_four]
  simp only [List.filter_append, with_lv]
  have h : ∀ k, lvP k (if k = n then withoutL (s.lv n) f else s.lv k) = (lvP k (s.lv k)).filter fun x => !decide (x.1 = ⟨(n : Int), f⟩) := fun k => by
    by_cases hk : k = n
    · subst hk; rw [if_pos rfl, lvP_filter_same]
    · rw [if_neg hk, lvP_filter_other hk]
  rw [h 0, h 1, h 2, h 3]
theorem Rel.gone {es : List PlM} {s : StD} (h : Rel es s) (hk : (es.map (·.key)).Nodup) {p : PlD} (hp : plB p = true) : Rel (delE es p) (s.with p.level.toNat (withoutL (s.lv p.level.toNat) p.file)) := by
  obtain ⟨n, hn, hl, hnn⟩ := plB_lv hp
  unfold Rel
  rw [hnn, placed_gone s n hn, del_filter hk]
  have e : (es.filter fun x => !decide (x.key = p)).map kv = (es.map kv).filter fun x => !decide (x.1 = p) := by
    rw [List.filter_map]; rfl
  have hp' : p = ⟨(n : Int), p.file⟩ := by cases p; simp only at hl ⊢; rw [hl]
  rw [e, ← hp']
  exact h.filter _
theorem lvP_perm {n : Nat} {l l' : List MetaD} (h : l.Perm l') : (lvP n l).Perm (lvP n l') := h.map _
theorem placed_new (s : StD) (n : Nat) (hn : n < 4) (t : MetaD) (k : Nat) : (placed (s.with n (putL (s.lv n) t k))).Perm ((⟨(n : Int), t.file⟩, t) :: placed s) := by
  have hp : (lvP n (putL (s.lv n) t k)).Perm ((⟨(n : Int), t.file⟩, t) :: lvP n (s.lv n)) := lvP_perm (putL_perm _ _ _)
  rw [placed_four, placed_four]
  obtain rfl | rfl | rfl | rfl : n = 0 ∨ n = 1 ∨ n = 2 ∨ n = 3 := by omega
  · simp only [with_lv, if_true, Nat.one_ne_zero, if_false, show ¬ (2 : Nat) = 0 by omega, show ¬ (3 : Nat) = 0 by omega]
    exact ((hp.append_right _).append_right _).append_right _
  · simp only [with_lv, if_true, show ¬ (0 : Nat) = 1 by omega, if_false, show ¬ (2 : Nat) = 1 by omega, show ¬ (3 : Nat) = 1 by omega]
    exact (((hp.append_left (lvP 0 (s.lv 0))).trans List.perm_middle).append_right _).append_right _
  · simp only [with_lv, if_true, show ¬ (0 : Nat) = 2 by omega, if_false, show ¬ (1 : Nat) = 2 by omega, show ¬ (3 : Nat) = 2 by omega]
    exact ((hp.append_left (lvP 0 (s.lv 0) ++ lvP 1 (s.lv 1))).trans List.perm_middle).append_right _
  · simp only [with_lv, if_true, show ¬ (0 : Nat) = 3 by omega, if_false, show ¬ (1 : Nat) = 3 by omega, show ¬ (2 : Nat) = 3 by omega]
    exact (hp.append_left (lvP 0 (s.lv 0) ++ lvP 1 (s.lv 1) ++ lvP 2 (s.lv 2))).trans List.perm_middle
theorem rel_has {es : List PlM} {s : StD} (h : Rel es s) (f : Int) : hasB s f = true ↔ ∃ x ∈ es, x.key.file = f := by
  rw [hasB_iff]
  constructor
  · rintro ⟨m, hm, rfl⟩
    obtain ⟨n, hn, hm⟩ := mem_allS.1 hm
    obtain ⟨x, hx, hk, hv⟩ := (h.mem ⟨(n : Int), m.file⟩ m).2 ⟨n, hn, hm, rfl⟩
    exact ⟨x, hx, by rw [hk]⟩
  · rintro ⟨x, hx, rfl⟩
    obtain ⟨n, hn, hm, hp⟩ := (h.mem x.key x.val).1 ⟨x, hx, rfl, rfl⟩
    exact ⟨x.val, mem_allS.2 ⟨n, hn, hm⟩, by rw [hp]⟩
theorem Rel.new {es : List PlM} {s : StD} (h : Rel es s) {a : AddD} (ha : addB a = true) (clock : Nat) : Rel (es ++ [⟨⟨a.level, a.t.file⟩, a.t, clock⟩]) (s.with a.level.toNat (putL (s.lv a.level.toNat) a.t a.level.toNat)) := by
  obtain ⟨n, hn, hl, hnn⟩ := addB_lv ha
  unfold Rel
  rw [hnn, List.map_append]
  refine List.Perm.trans ?_ (placed_new s n hn a.t n).symm
  refine List.perm_append_comm.trans ?_
  simp only [List.map_cons, List.map_nil, List.cons_append, List.nil_append, kv, hl]
  exact List.Perm.cons _ h
theorem rel_new_none {es : List PlM} {s : StD} (h : Rel es s) {a : AddD} (hh : hasB s a.t.file = false) : lookE es (⟨a.level, a.t.file⟩ : PlD) = none := by
  rw [lookE_none]
  intro x hx hk
  have := (rel_has h a.t.file).2 ⟨x, hx, by rw [hk]⟩
  rw [hh] at this; cases this
end Go.Proofs.Ytheanmfdfoefoaa
