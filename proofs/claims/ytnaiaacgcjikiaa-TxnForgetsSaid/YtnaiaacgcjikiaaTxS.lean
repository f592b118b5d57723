/- Transactions: a book and its transactions in order, and each call's contract over them. -/
import Derived.Test.YtnaiaacgcjikiaaTxC
set_option linter.unusedVariables false
set_option linter.unusedSimpArgs false
namespace Go.Proofs.Ytnaiaacgcjikiaa
open Go Go.RowKit Hv
set_option maxRecDepth 20000
set_option maxHeartbeats 4000000
/-- A book as data: its notes, its transactions. -/
structure SysD where
  notes : List (Ent Nm Int) × Nat
  txns : List TxnD
def openN (D : SysD) : Nat := (D.txns.filter fun t => !t.over).length
structure Sys (H : Hp) (n : Nat) (S : Nat → Prop) (b : Nat) (Ps : List (Nat × Nat)) (D : SysD) : Prop where
  ex : ∃ (N : BkN) (d : BookD), BookH H n b N d ∧ (d.notes, d.nc) = D.notes ∧ S N.nn ∧ S N.no ∧ S N.nh ∧ (∀ x ∈ Ps, x.2 ≠ N.nn ∧ x.2 ≠ N.no ∧ x.2 ≠ N.nh) ∧ (∀ e ∈ d.opn, S e.key) ∧ (∀ e ∈ d.had, S e.key) ∧ (∀ (i : Nat) (x : Nat × Nat), Ps[i]? = some x → lookE d.had x.1 = some true) ∧
    (∀ (i : Nat) (x : Nat × Nat) (t : TxnD), Ps[i]? = some x → D.txns[i]? = some t → lookE d.opn x.1 = if t.over then none else some true) ∧ d.opn.length = openN D
  Sb : S b
  len : Ps.length = D.txns.length
  tx : ∀ (i : Nat) (x : Nat × Nat) (t : TxnD), Ps[i]? = some x → D.txns[i]? = some t → TxnH H x.1 x.2 t ∧ S x.1 ∧ S x.2
  nd : (Ps.map (·.1)).Nodup ∧ (Ps.map (·.2)).Nodup
  lt : ∀ j, S j → j < n
def SysP (H : Hp) (n : Nat) (S : Nat → Prop) (b : Nat) (Ps' : List (Nat × Nat)) (D' : SysD) (res r : AV) (H' : Hp) (n' : Nat) : Prop :=
  r = res ∧ ∃ S', Sys H' n' S' b Ps' D' ∧ n ≤ n' ∧ ∀ j, j < n → ¬ S j → H' j = H j ∧ ¬ S' j
section
variable {H H' : Hp} {n n' b : Nat} {S : Nat → Prop} {Ps : List (Nat × Nat)} {D : SysD}
theorem Sys.frame (h : Sys H n S b Ps D) (hn : n ≤ n') (hh : ∀ j, S j → H' j = H j) : Sys H' n' S b Ps D := by
  obtain ⟨N, d, hb, h1, h2, h3, h4, h5, tx0, tx1, h6, h7, h8⟩ := h.ex
  obtain ⟨l1, l2, l3, l4⟩ := hb.lt
  refine ⟨⟨N, d, ⟨(hh b h.Sb).trans hb.bk, (hh _ h2).trans hb.nt, (hh _ h3).trans hb.op, (hh _ h4).trans hb.hd, ⟨by omega, by omega, by omega, by omega⟩, hb.ne, hb.ntOk, hb.opOk, hb.hdOk, fun e he => by rw [hh _ (tx0 e he)]; exact hb.opV e he, fun e he => by rw [hh _ (tx1 e he)]; exact hb.hdV e he, fun e he => Nat.lt_of_lt_of_le (hb.opL e he) hn, fun e he => Nat.lt_of_lt_of_le (hb.hdL e he) hn, hb.opT, hb.hdT⟩, h1, h2, h3, h4, h5, tx0, tx1, h6, h7, h8⟩, h.Sb, h.len, fun i x t hx ht => ?_, h.nd, fun j hj => Nat.lt_of_lt_of_le (h.lt j hj) hn⟩
  obtain ⟨ht1, s1, s2⟩ := h.tx i x t hx ht
  exact ⟨⟨(hh _ s1).trans ht1.tx, (hh _ s2).trans ht1.ops, ht1.ok, ht1.val, ht1.len⟩, s1, s2⟩
theorem Sys.u {m : Nat} {o : Option AO} (h : Sys H n S b Ps D) (hm : ¬ S m) : Sys (upd H m o) n S b Ps D :=
  h.frame (Nat.le_refl n) fun j hj => upd_other fun e => hm (e ▸ hj)
theorem Sys.nu {m : Nat} (h : Sys H n S b Ps D) (hm : n ≤ m) : ¬ S m := fun hs => Nat.lt_irrefl _ (Nat.lt_of_lt_of_le (h.lt m hs) hm)
theorem Sys.new {m : Nat} {o : Option AO} (h : Sys H n S b Ps D) (hm : n ≤ m) (hn : n ≤ n') : Sys (upd H m o) n' S b Ps D := (h.u (h.nu hm)).frame hn fun _ _ => rfl
/-- An object that lies beside. -/
def Own (H : Hp) (n : Nat) (S : Nat → Prop) (j : Nat) (o : AO) : Prop := H j = some o ∧ j < n ∧ ¬ S j
theorem Own.at {j : Nat} {o : AO} (h : Own H n S j o) : H j = some o := h.1
theorem Own.keep {S' : Nat → Prop} {j : Nat} {o : AO} (h : Own H n S j o) (hn : n ≤ n') (k : ∀ j, j < n → ¬ S j → H' j = H j ∧ ¬ S' j) : Own H' n' S' j o :=
  ⟨(k j h.2.1 h.2.2).1.trans h.1, Nat.lt_of_lt_of_le h.2.1 hn, (k j h.2.1 h.2.2).2⟩
theorem Own.new {m j : Nat} {o : AO} {o' : Option AO} (h : Own H n S j o) (hm : n ≤ m) (hn : n ≤ n') : Own (upd H m o') n' S j o :=
  ⟨(upd_other (by have := h.2.1; omega)).trans h.1, Nat.lt_of_lt_of_le h.2.1 hn, h.2.2⟩
theorem Own.same {j : Nat} {o : AO} (h : Own H n S j o) (hn : n ≤ n') (hh : ∀ j, j < n → H' j = H j) : Own H' n' S j o :=
  ⟨(hh j h.2.1).trans h.1, Nat.lt_of_lt_of_le h.2.1 hn, h.2.2⟩
theorem Own.other {m j : Nat} {o : AO} {o' : Option AO} (h : Own H n S j o) (hm : m ≠ j) : Own (upd H m o') n S j o := ⟨(upd_other hm).trans h.1, h.2⟩
theorem Own.put {j : Nat} {o o' : AO} (h : Own H n S j o) : Own (upd H j (some o')) n S j o' := ⟨upd_same _ _ _, h.2⟩
theorem new_c : HCalls Try.prog 7 [] H n fun r H' n' => r = .ptr (n + 3) 0 ∧ n' = n + 4 ∧ Sys H' n' (fun j => n ≤ j ∧ j < n + 4) (n + 3) [] ⟨([], 0), []⟩ ∧ ∀ j, j < n → H' j = H j :=
  new_h.mono fun r H' n' ⟨h1, h2, h3, h4⟩ => ⟨h1, h2, by
    subst h2
    exact ⟨⟨_, _, h3, rfl, ⟨Nat.le_refl _, by show n < n + 4; omega⟩, ⟨by show n ≤ n + 1; omega, by show n + 1 < n + 4; omega⟩, ⟨by show n ≤ n + 2; omega, by show n + 2 < n + 4; omega⟩, fun x hx => absurd hx List.not_mem_nil, fun x hx => absurd hx List.not_mem_nil, fun x hx => absurd hx List.not_mem_nil, fun i x hx => by simp at hx, fun i x t hx => by simp at hx, rfl⟩, ⟨by omega, by omega⟩, rfl, fun i x t hx => by simp at hx, ⟨List.nodup_nil, List.nodup_nil⟩, fun j hj => hj.2⟩, fun j hj => h4 j hj List.not_mem_nil⟩
theorem lt_of_some {α : Type} {l : List α} {i : Nat} {x : α} (h : l[i]? = some x) : i < l.length := (List.getElem?_eq_some_iff.1 h).1
theorem Sys.txn (h : Sys H n S b Ps D) {i : Nat} {t : TxnD} (ht : D.txns[i]? = some t) : ∃ x, Ps[i]? = some x ∧ TxnH H x.1 x.2 t ∧ S x.1 ∧ S x.2 ∧ x.1 < n ∧ x.2 < n := by
  have hl := lt_of_some ht
  rw [← h.len] at hl
  obtain ⟨h1, h2, h3⟩ := h.tx i Ps[i] t (List.getElem?_eq_getElem hl) ht
  exact ⟨Ps[i], List.getElem?_eq_getElem hl, h1, h2, h3, h.lt _ h2, h.lt _ h3⟩
/-- Begin. -/
def SysD.begun (D : SysD) (seq : Int) : SysD := ⟨D.notes, D.txns ++ [⟨seq, false, [], 0⟩]⟩
theorem openN_snoc (D : SysD) (seq : Int) : openN (D.begun seq) = openN D + 1 := by
  unfold openN SysD.begun
  rw [List.filter_append, List.length_append]; rfl
theorem at_snoc {α : Type} {l : List α} {a x : α} {i : Nat} (h : (l ++ [a])[i]? = some x) : l[i]? = some x ∨ (i = l.length ∧ x = a) := by
  by_cases hi : i < l.length
  · rw [List.getElem?_append_left hi] at h; exact .inl h
  · rw [List.getElem?_append_right (by omega)] at h
    have : i - l.length = 0 := by
      have := lt_of_some h
      simp at this; omega
    rw [this] at h
    exact .inr ⟨by omega, by simpa using h.symm⟩
theorem begin_c (h : Sys H n S b Ps D) (seq : Int) (hs : 0 ≤ seq ∧ seq ≤ 72057594037927935) (hlen : openN D < 16) :
    HCalls Try.prog 8 [.ptr b 0, .lit (.int .i64 seq)] H n (SysP H n S b (Ps ++ [(n + 1, n)]) (D.begun seq) (.tup [.ptr (n + 1) 0, .lit (.int .i64 0)])) := by
  obtain ⟨N, d, hb, h1, h2, h3, h4, h5, tx0, tx1, h6, h7, h8⟩ := h.ex
  refine (begin_h hb seq hs (by rw [h8]; exact hlen)).mono fun r H' n' ⟨hr, hn', g1, g2, g3⟩ => ⟨hr, fun j => S j ∨ j = n ∨ j = n + 1, ?_⟩
  subst hn'
  obtain ⟨l1, l2, l3, l4⟩ := hb.lt
  have hS1 : ¬ S (n + 1) := h.nu (by omega)
  have hS0 : ¬ S n := h.nu (Nat.le_refl _)
  have pne : ∀ {i : Nat} {x : Nat × Nat}, Ps[i]? = some x → x.1 ≠ n + 1 ∧ x.2 ≠ n ∧ x.1 < n ∧ x.2 < n ∧ x.2 ≠ N.no ∧ x.2 ≠ N.nh := fun {i x} hx => by
    have hl := lt_of_some hx
    rw [h.len] at hl
    obtain ⟨_, s1, s2⟩ := h.tx i x _ hx (List.getElem?_eq_getElem hl)
    have := h.lt _ s1
    have := h.lt _ s2
    have := h5 x (List.mem_of_getElem? hx)
    exact ⟨by omega, by omega, by omega, by omega, this.2.1, this.2.2⟩
  refine ⟨⟨⟨N, _, g1, h1, .inl h2, .inl h3, .inl h4, fun x hx => ?_, fun e he => ?_, fun e he => ?_, fun i x hx => ?_, fun i x t hx ht => ?_, ?_⟩, .inl h.Sb, ?_, fun i x t hx ht => ?_, ?_, fun j hj => ?_⟩, by omega, fun j hj hs => ⟨g3 j hj ?_, ?_⟩⟩
  · rcases List.mem_append.1 hx with hx | hx
    · exact h5 x hx
    · rw [List.mem_singleton.1 hx]; exact ⟨by omega, by omega, by omega⟩
  · rcases List.mem_append.1 he with he | he
    · exact .inl (tx0 e he)
    · rw [List.mem_singleton.1 he]; exact .inr (.inr rfl)
  · rcases List.mem_append.1 he with he | he
    · exact .inl (tx1 e he)
    · rw [List.mem_singleton.1 he]; exact .inr (.inr rfl)
  · show lookE (d.had ++ [_]) x.1 = _
    have hn : lookE d.had (n + 1) = none := lookE_none.2 fun e he hk => hS1 (hk ▸ tx1 e he)
    have hp : d.had ++ [(⟨n + 1, true, d.hc⟩ : Ent Nat Bool)] = (putE d.had d.hc (n + 1) true).1 := by rw [put_new true hn]
    rw [hp, lookE_put]
    rcases at_snoc hx with hx | ⟨_, rfl⟩
    · rw [if_neg (pne hx).1]; exact h6 i x hx
    · rw [if_pos rfl]
  · show lookE (d.opn ++ [_]) x.1 = _
    have hn : lookE d.opn (n + 1) = none := lookE_none.2 fun e he hk => hS1 (hk ▸ tx0 e he)
    have hp : d.opn ++ [(⟨n + 1, true, d.oc⟩ : Ent Nat Bool)] = (putE d.opn d.oc (n + 1) true).1 := by rw [put_new true hn]
    rw [hp, lookE_put]
    rcases at_snoc hx with hx | ⟨hi, rfl⟩
    · rw [if_neg (pne hx).1]
      rcases at_snoc ht with ht | ⟨hi, _⟩
      · exact h7 i x t hx ht
      · have := lt_of_some hx; rw [h.len] at this; omega
    · rw [if_pos rfl]
      rcases at_snoc ht with ht | ⟨_, rfl⟩
      · have := lt_of_some ht; rw [hi, h.len] at this; omega
      · rfl
  · show (d.opn ++ [_]).length = _
    rw [List.length_append, openN_snoc, h8]; rfl
  · show (Ps ++ [_]).length = (D.txns ++ [_]).length
    rw [List.length_append, List.length_append, h.len]; rfl
  · rcases at_snoc hx with hx | ⟨hi, rfl⟩
    · rcases at_snoc ht with ht | ⟨hi, _⟩
      · obtain ⟨q1, q2, q3⟩ := h.tx i x t hx ht
        obtain ⟨_, _, p1, p2, p3, p4⟩ := pne hx
        have hd := hb.hd
        have op := hb.op
        have tx := q1.tx
        refine ⟨q1.keeps g3 p1 p2 ?_ (by simp; exact ⟨p3, p4⟩), .inl q2, .inl q3⟩
        simp only [List.mem_cons, List.not_mem_nil, or_false, not_or]
        exact ⟨fun e => (by rw [e, op] at tx; cases tx), fun e => (by rw [e, hd] at tx; cases tx)⟩
      · have := lt_of_some hx; rw [h.len] at this; omega
    · rcases at_snoc ht with ht | ⟨_, rfl⟩
      · have := lt_of_some ht; rw [hi, h.len] at this; omega
      · exact ⟨g2, .inr (.inr rfl), .inr (.inl rfl)⟩
  · rw [List.map_append, List.map_append]
    refine ⟨List.nodup_append.2 ⟨h.nd.1, by simp, fun a ha c hc => ?_⟩, List.nodup_append.2 ⟨h.nd.2, by simp, fun a ha c hc => ?_⟩⟩
    · obtain ⟨x, hx, rfl⟩ := List.mem_map.1 ha
      obtain ⟨i, hi⟩ := List.mem_iff_getElem?.1 hx
      have := (pne hi).1
      simp at hc; rw [hc]; exact this
    · obtain ⟨x, hx, rfl⟩ := List.mem_map.1 ha
      obtain ⟨i, hi⟩ := List.mem_iff_getElem?.1 hx
      have := (pne hi).2.1
      simp at hc; rw [hc]; exact this
  · rcases hj with hj | rfl | rfl
    · have := h.lt j hj; omega
    · omega
    · omega
  · simp only [List.mem_cons, List.not_mem_nil, or_false, not_or]
    exact ⟨fun e => hs (e ▸ h3), fun e => hs (e ▸ h4)⟩
  · rintro (hj' | rfl | rfl)
    · exact hs hj'
    · omega
    · omega
theorem filter_set {α : Type} {p : α → Bool} {t' t : α} : ∀ {l : List α} {i : Nat}, l[i]? = some t → ((l.set i t').filter p).length + (if p t then 1 else 0) = (l.filter p).length + (if p t' then 1 else 0)
  | [], i, h => by simp at h
  | a :: l, 0, h => by
    obtain rfl : a = t := by simpa using h
    rw [List.set_cons_zero, List.filter_cons, List.filter_cons]
    cases p a <;> cases p t' <;> simp
  | a :: l, i + 1, h => by
    have ih := filter_set (p := p) (t' := t') (t := t) (l := l) (i := i) (by simpa using h)
    rw [List.set_cons_succ, List.filter_cons, List.filter_cons]
    cases p a
    · simpa using ih
    · simp only [if_true, List.length_cons]; omega
theorem sub3 {a b c m : Nat} : ∀ i ∈ [a, b, c], i ∈ [a, m, b, c] := fun i hi => by
  simp only [List.mem_cons, List.not_mem_nil, or_false] at hi ⊢
  rcases hi with h | h | h
  · exact .inl h
  · exact .inr (.inr (.inl h))
  · exact .inr (.inr (.inr h))
theorem Sys.step (h : Sys H n S b Ps D) (hn : n ≤ n') {i : Nat} {x : Nat × Nat} {t t' : TxnD} (hx : Ps[i]? = some x) (ht : D.txns[i]? = some t) {N : BkN} {d d' : BookD} (hb : BookH H n b N d) (h2 : S N.nn) (h3 : S N.no) (h4 : S N.nh) (h5 : ∀ x ∈ Ps, x.2 ≠ N.nn ∧ x.2 ≠ N.no ∧ x.2 ≠ N.nh) (tx0 : ∀ e ∈ d.opn, S e.key) (tx1 : ∀ e ∈ d.had, S e.key)
    (h6 : ∀ (i : Nat) (x : Nat × Nat), Ps[i]? = some x → lookE d.had x.1 = some true) (h7 : ∀ (i : Nat) (x : Nat × Nat) (t : TxnD), Ps[i]? = some x → D.txns[i]? = some t → lookE d.opn x.1 = if t.over then none else some true)
    (hh : d'.had = d.had) (hsub : ∀ e ∈ d'.opn, e ∈ d.opn) (hlk : ∀ q, lookE d'.opn q = if q = x.1 then (if t'.over then none else some true) else lookE d.opn q) (hcn : d'.opn.length = ((D.txns.set i t').filter fun t => !t.over).length)
    (hb' : BookH H' n' b N d') (ht' : TxnH H' x.1 x.2 t') (hk : Keeps H H' n [x.1, x.2, N.no, N.nn]) : Sys H' n' S b Ps ⟨(d'.notes, d'.nc), D.txns.set i t'⟩ := by
  have hlx := lt_of_some hx
  have hlt := lt_of_some ht
  refine ⟨⟨N, d', hb', rfl, h2, h3, h4, h5, fun e he => tx0 e (hsub e he), fun e he => tx1 e (by rw [← hh]; exact he), fun j y hy => by rw [hh]; exact h6 j y hy, fun j y u hy hu => ?_, hcn⟩, h.Sb, by show Ps.length = (D.txns.set i t').length; rw [List.length_set]; exact h.len, fun j y u hy hu => ?_, h.nd, fun j hj => Nat.lt_of_lt_of_le (h.lt j hj) hn⟩
  · rw [hlk]
    by_cases hji : i = j
    · subst hji
      have hu' : (D.txns.set i t')[i]? = some u := hu
      rw [List.getElem?_set_self hlt] at hu'
      rw [hx] at hy
      injection hy with hy
      injection hu' with hu'
      subst hy hu'
      rw [if_pos rfl]
    · have hu' : (D.txns.set i t')[j]? = some u := hu
      rw [List.getElem?_set_ne hji] at hu'
      have hne : y.1 ≠ x.1 := fun e => by
        have hnd := List.pairwise_iff_getElem.1 h.nd.1
        obtain ⟨q1, q2⟩ := List.getElem?_eq_some_iff.1 hx
        obtain ⟨q3, q4⟩ := List.getElem?_eq_some_iff.1 hy
        rcases Nat.lt_or_ge i j with hij | hij
        · have := hnd i j (by simpa using q1) (by simpa using q3) hij
          simp only [List.getElem_map, q2, q4] at this
          exact this e.symm
        · have := hnd j i (by simpa using q3) (by simpa using q1) (by omega)
          simp only [List.getElem_map, q2, q4] at this
          exact this e
      rw [if_neg hne]
      exact h7 j y u hy hu'
  · by_cases hji : i = j
    · subst hji
      have hu' : (D.txns.set i t')[i]? = some u := hu
      rw [List.getElem?_set_self hlt] at hu'
      rw [hx] at hy
      injection hy with hy
      injection hu' with hu'
      subst hy hu'
      obtain ⟨_, s1, s2⟩ := h.tx i x t hx ht
      exact ⟨ht', s1, s2⟩
    · have hu' : (D.txns.set i t')[j]? = some u := hu
      rw [List.getElem?_set_ne hji] at hu'
      obtain ⟨r1, s1, s2⟩ := h.tx j y u hy hu'
      obtain ⟨r2, _, _⟩ := h.tx i x t hx ht
      have hne : y.1 ≠ x.1 ∧ y.2 ≠ x.2 := by
        have hnd := List.pairwise_iff_getElem.1 h.nd.1
        have hnd2 := List.pairwise_iff_getElem.1 h.nd.2
        obtain ⟨q1, q2⟩ := List.getElem?_eq_some_iff.1 hx
        obtain ⟨q3, q4⟩ := List.getElem?_eq_some_iff.1 hy
        rcases Nat.lt_or_ge i j with hij | hij
        · have a1 := hnd i j (by simpa using q1) (by simpa using q3) hij
          have a2 := hnd2 i j (by simpa using q1) (by simpa using q3) hij
          simp only [List.getElem_map, q2, q4] at a1 a2
          exact ⟨fun e => a1 e.symm, fun e => a2 e.symm⟩
        · have a1 := hnd j i (by simpa using q3) (by simpa using q1) (by omega)
          have a2 := hnd2 j i (by simpa using q3) (by simpa using q1) (by omega)
          simp only [List.getElem_map, q2, q4] at a1 a2
          exact ⟨a1, a2⟩
      have op := hb.op
      have nt := hb.nt
      have t1 := r1.tx
      have t2 := r2.tx
      have o1 := r1.ops
      have o2 := r2.ops
      have hm := h5 y (List.mem_of_getElem? hy)
      refine ⟨r1.keeps hk (h.lt _ s1) (h.lt _ s2) ?_ ?_, s1, s2⟩
      · simp only [List.mem_cons, List.not_mem_nil, or_false, not_or]
        exact ⟨hne.1, fun e => (by rw [e, o2] at t1; cases t1), fun e => (by rw [e, op] at t1; cases t1), fun e => (by rw [e, nt] at t1; cases t1)⟩
      · simp only [List.mem_cons, List.not_mem_nil, or_false, not_or]
        exact ⟨fun e => (by rw [e, t2] at o1; cases o1), hne.2, hm.2.1, hm.1⟩
theorem sysP_of {Ps' : List (Nat × Nat)} {D' : SysD} {r : AV} (hn : n ≤ n') (h' : Sys H' n' S b Ps' D') (hk : ∀ j, j < n → ¬ S j → H' j = H j) : SysP H n S b Ps' D' r r H' n' := ⟨rfl, S, h', hn, fun j hj hs => ⟨hk j hj hs, hs⟩⟩
/-- A change of a transaction. -/
def SysD.put (D : SysD) (i : Nat) (t : TxnD) (o : OpD) : SysD := ⟨D.notes, D.txns.set i (chTxn t o)⟩
theorem chTxn_over (t : TxnD) (o : OpD) : (chTxn t o).over = t.over := by
  unfold chTxn
  split
  · split <;> rfl
  · rfl
theorem put_step (h : Sys H n S b Ps D) (hn : n ≤ n') {i : Nat} {x : Nat × Nat} {t : TxnD} (hx : Ps[i]? = some x) (ht : D.txns[i]? = some t) (o : OpD) (g1 : TxnH H' x.1 x.2 (chTxn t o)) (g2 : Keeps H H' n [x.2]) : SysP H n S b Ps (D.put i t o) (.lit (.int .i64 (chErr t o))) (.lit (.int .i64 (chErr t o))) H' n' := by
  obtain ⟨N, d, hb, h1, h2, h3, h4, h5, tx0, tx1, h6, h7, h8⟩ := h.ex
  obtain ⟨r1, s1, s2⟩ := h.tx i x t hx ht
  have hm := h5 x (List.mem_of_getElem? hx)
  have o1 := r1.ops
  have bk := hb.bk
  have vm : Hv.isVar (H x.2) = false := by rw [o1]; rfl
  have hb' : BookH H' n' b N d := hb.keeps g2 hn ⟨by simp only [List.mem_singleton]; exact fun e => (by rw [← e, bk] at o1; cases o1), by simpa using fun e => hm.1 (Eq.symm e), by simpa using fun e => hm.2.1 (Eq.symm e), by simpa using fun e => hm.2.2 (Eq.symm e)⟩ (fun j hj hv => by rw [List.mem_singleton.1 hj, vm] at hv; cases hv)
  have hset := filter_set (p := fun t : TxnD => !t.over) (t' := chTxn t o) ht
  simp only [chTxn_over] at hset
  have := h.step hn (t' := chTxn t o) hx ht hb h2 h3 h4 h5 tx0 tx1 h6 h7 rfl (fun e he => he) (fun q => by
    by_cases hq : q = x.1
    · rw [if_pos hq, hq, h7 i x t hx ht, chTxn_over]
    · rw [if_neg hq]) (by rw [h8]; unfold openN; omega) hb' g1 (g2.less (by simp))
  rw [h1] at this
  exact sysP_of hn this fun j hj hs => g2 j hj (by simpa using fun e : j = x.2 => hs (e ▸ s2))
theorem put_c (h : Sys H n S b Ps D) {i : Nat} {x : Nat × Nat} {t : TxnD} (hx : Ps[i]? = some x) (ht : D.txns[i]? = some t) (k v : ByteArray) :
    HCalls Try.prog 9 [.ptr x.1 0, .lit (.string k), .lit (.string v)] H n (SysP H n S b Ps (D.put i t ⟨1, k, v⟩) (.lit (.int .i64 (chErr t ⟨1, k, v⟩)))) := by
  obtain ⟨r1, s1, s2⟩ := h.tx i x t hx ht
  refine (put_h r1 (h.lt _ s1) (h.lt _ s2) k v).mono fun r H' n' ⟨hr, g0, g1, g2⟩ => ?_
  subst hr
  exact put_step h g0 hx ht _ g1 g2
theorem del_c (h : Sys H n S b Ps D) {i : Nat} {x : Nat × Nat} {t : TxnD} (hx : Ps[i]? = some x) (ht : D.txns[i]? = some t) (k : ByteArray) :
    HCalls Try.prog 16 [.ptr x.1 0, .lit (.string k)] H n (SysP H n S b Ps (D.put i t ⟨0, k, ⟨#[]⟩⟩) (.lit (.int .i64 (chErr t ⟨0, k, ⟨#[]⟩⟩)))) := by
  obtain ⟨r1, s1, s2⟩ := h.tx i x t hx ht
  refine (del_h r1 (h.lt _ s1) (h.lt _ s2) k).mono fun r H' n' ⟨hr, g0, g1, g2⟩ => ?_
  subst hr
  exact put_step h g0 hx ht _ g1 g2
theorem over_c (h : Sys H n S b Ps D) {i : Nat} {x : Nat × Nat} {t : TxnD} (hx : Ps[i]? = some x) (ht : D.txns[i]? = some t) :
    HCalls Try.prog 13 [.ptr x.1 0] H n fun r H' n' => r = .lit (.bool t.over) ∧ H' = H ∧ n' = n := over_h (h.tx i x t hx ht).1
theorem ops_c (h : Sys H n S b Ps D) {i : Nat} {x : Nat × Nat} {t : TxnD} (hx : Ps[i]? = some x) (ht : D.txns[i]? = some t) :
    HCalls Try.prog 10 [.ptr x.1 0] H n fun r H' n' => ∃ g, r = .rw g 3 0 (opsOf t).length ∧ n ≤ n' ∧ Sys H' n' S b Ps D ∧ Own H' n' S g (.row false 39 ((opsOf t).map opI)) ∧ n ≤ g ∧ ∀ j, j < n → H' j = H j := by
  obtain ⟨r1, s1, s2⟩ := h.tx i x t hx ht
  refine (ops_h r1 (h.lt _ s1) (h.lt _ s2)).mono fun r H' n' ⟨g, hr, g1, g2, g3, g4, g5⟩ => ⟨g, hr, g4, h.frame g4 fun j hj => g5 j (h.lt j hj) List.not_mem_nil, ⟨g3, g2, h.nu g1⟩, g1, fun j hj => g5 j hj List.not_mem_nil⟩
/-- Was another one first? -/
def SysD.clash (D : SysD) (t : TxnD) : Bool := !t.over && t.ops.any fun e => decide ((lookE D.notes.1 e.key).getD 0 > t.start)
theorem clash_eq {d : BookD} {i : Nat} {x : Nat × Nat} {t : TxnD} (hx : Ps[i]? = some x) (ht : D.txns[i]? = some t) (h1 : (d.notes, d.nc) = D.notes) (h7 : ∀ (i : Nat) (x : Nat × Nat) (t : TxnD), Ps[i]? = some x → D.txns[i]? = some t → lookE d.opn x.1 = if t.over then none else some true) : clashB d t x.1 = D.clash t := by
  unfold clashB SysD.clash
  rw [h7 i x t hx ht, ← h1]
  cases t.over <;> rfl
theorem clash_c (h : Sys H n S b Ps D) {i : Nat} {x : Nat × Nat} {t : TxnD} (hx : Ps[i]? = some x) (ht : D.txns[i]? = some t) :
    HCalls Try.prog 11 [.ptr b 0, .ptr x.1 0] H n fun r H' n' => r = .lit (.bool (D.clash t)) ∧ n ≤ n' ∧ Sys H' n' S b Ps D ∧ ∀ j, j < n → H' j = H j := by
  obtain ⟨N, d, hb, h1, h2, h3, h4, h5, tx0, tx1, h6, h7, h8⟩ := h.ex
  obtain ⟨r1, s1, s2⟩ := h.tx i x t hx ht
  refine (clash_h hb r1 (h.lt _ s1) (h.lt _ s2)).mono fun r H' n' ⟨hr, g1, g2⟩ => ⟨by rw [hr, clash_eq hx ht h1 h7], g1, h.frame g1 fun j hj => g2 j (h.lt j hj) List.not_mem_nil, fun j hj => g2 j hj List.not_mem_nil⟩
/-- Behind an end. -/
def SysD.ended (D : SysD) (i : Nat) (t : TxnD) (x : List (Ent Nm Int) × Nat) : SysD := ⟨x, D.txns.set i t.ended⟩
theorem end_step (h : Sys H n S b Ps D) (hn : n ≤ n') {i : Nat} {x : Nat × Nat} {t : TxnD} {y : List (Ent Nm Int) × Nat} (hx : Ps[i]? = some x) (ht : D.txns[i]? = some t) (ho : t.over = false) {N : BkN} {d : BookD} (hb : BookH H n b N d) (h2 : S N.nn) (h3 : S N.no) (h4 : S N.nh) (h5 : ∀ x ∈ Ps, x.2 ≠ N.nn ∧ x.2 ≠ N.no ∧ x.2 ≠ N.nh) (tx0 : ∀ e ∈ d.opn, S e.key) (tx1 : ∀ e ∈ d.had, S e.key)
    (h6 : ∀ (i : Nat) (x : Nat × Nat), Ps[i]? = some x → lookE d.had x.1 = some true) (h7 : ∀ (i : Nat) (x : Nat × Nat) (t : TxnD), Ps[i]? = some x → D.txns[i]? = some t → lookE d.opn x.1 = if t.over then none else some true) (h8 : d.opn.length = openN D)
    (hb' : BookH H' n' b N ((d.noted y).ended x.1)) (ht' : TxnH H' x.1 x.2 t.ended) (hk : Keeps H H' n [x.1, N.no, N.nn]) : Sys H' n' S b Ps (D.ended i t y) ∧ ∀ j, j < n → ¬ S j → H' j = H j := by
  obtain ⟨r1, s1, s2⟩ := h.tx i x t hx ht
  have hset := filter_set (p := fun t : TxnD => !t.over) (t' := t.ended) ht
  rw [ho] at hset
  have hin := h7 i x t hx ht
  rw [ho] at hin
  have hld := len_del (es := d.opn) x.1
  rw [hin] at hld
  have hl1 : 0 < d.opn.length := by
    obtain ⟨e, he, _⟩ := lookE_mem hin
    exact List.length_pos_of_mem he
  refine ⟨h.step hn (t' := t.ended) (d' := (d.noted y).ended x.1) hx ht hb h2 h3 h4 h5 tx0 tx1 h6 h7 rfl (fun e he => ?_) (fun q => ?_) ?_ hb' ht' (hk.less sub3), fun j hj hs => hk j hj ?_⟩
  · have he' : e ∈ delE d.opn x.1 := he
    rw [del_filter hb.opOk.keys] at he'
    exact (List.mem_filter.1 he').1
  · show lookE (delE d.opn x.1) q = _
    rw [lookE_del hb.opOk.keys]
    by_cases hq : q = x.1
    · rw [if_pos hq, if_pos hq]; rfl
    · rw [if_neg hq, if_neg hq]
  · show (delE d.opn x.1).length = _
    have e2 : (d.opn.length - 1) + 1 = openN D := by omega
    unfold openN at e2
    simp only [TxnD.ended] at hset ⊢
    simp at hld hset
    omega
  · simp only [List.mem_cons, List.not_mem_nil, or_false, not_or]
    exact ⟨fun e => hs (e ▸ s1), fun e => hs (e ▸ h3), fun e => hs (e ▸ h2)⟩
theorem abort_c (h : Sys H n S b Ps D) {i : Nat} {x : Nat × Nat} {t : TxnD} (hx : Ps[i]? = some x) (ht : D.txns[i]? = some t) (ho : t.over = false) :
    HCalls Try.prog 14 [.ptr b 0, .ptr x.1 0] H n (SysP H n S b Ps (D.ended i t D.notes) (.lit (.int .i64 0))) := by
  obtain ⟨N, d, hb, h1, h2, h3, h4, h5, tx0, tx1, h6, h7, h8⟩ := h.ex
  obtain ⟨r1, s1, s2⟩ := h.tx i x t hx ht
  have hin := h7 i x t hx ht
  rw [ho] at hin
  refine (abort_h hb r1 (h.lt _ s1) (h.lt _ s2) (h5 x (List.mem_of_getElem? hx)) hin (h6 i x hx) ho).mono fun r H' n' ⟨hr, hn', g1, g2, g3⟩ => ?_
  subst hr hn'
  obtain ⟨q1, q2⟩ := end_step (y := D.notes) h (Nat.le_refl _) hx ht ho hb h2 h3 h4 h5 tx0 tx1 h6 h7 h8 (by rw [← h1]; exact g1) g2 (g3.less (by simp))
  exact sysP_of (Nat.le_refl _) q1 q2
/-- Commit. -/
def SysD.comErr (D : SysD) (t : TxnD) (seq : Int) : Int :=
  if seq ≤ t.start ∨ 72057594037927935 < seq ∨ 72057594037927935 - seq < ((opsOf t).length : Int) - 1 then 1
  else if t.over then 12 else if D.clash t then 11 else 0
def SysD.com (D : SysD) (i : Nat) (t : TxnD) (seq : Int) : SysD :=
  if D.comErr t seq = 0 then D.ended i t (noteAll D.notes (opsL t.ops) seq) else if D.comErr t seq = 11 then D.ended i t D.notes else D
theorem commit_c (h : Sys H n S b Ps D) {i : Nat} {x : Nat × Nat} {t : TxnD} (hx : Ps[i]? = some x) (ht : D.txns[i]? = some t) (seq : Int) (hs : -1000000000000000000 ≤ seq ∧ seq ≤ 1000000000000000000) :
    HCalls Try.prog 12 [.ptr b 0, .ptr x.1 0, .lit (.int .i64 seq)] H n (SysP H n S b Ps (D.com i t seq) (.lit (.int .i64 (D.comErr t seq)))) := by
  obtain ⟨N, d, hb, h1, h2, h3, h4, h5, tx0, tx1, h6, h7, h8⟩ := h.ex
  obtain ⟨r1, s1, s2⟩ := h.tx i x t hx ht
  have hin := h7 i x t hx ht
  have hce := clash_eq hx ht h1 h7
  have herr : comErr d t x.1 seq = D.comErr t seq := by unfold comErr SysD.comErr; rw [hce]
  refine (commit_h hb r1 (h.lt _ s1) (h.lt _ s2) (h5 x (List.mem_of_getElem? hx)) (fun ho => by rw [hin, ho]; rfl) (h6 i x hx) seq hs).mono fun r H' n' ⟨hr, hn', g1, g2, g3⟩ => ?_
  rw [herr] at hr
  subst hr
  have hkS : ∀ j, j < n → ¬ S j → H' j = H j := fun j hj hs => g3 j hj (by
    simp only [List.mem_cons, List.not_mem_nil, or_false, not_or]
    exact ⟨fun e => hs (e ▸ s1), fun e => hs (e ▸ h3), fun e => hs (e ▸ h2)⟩)
  unfold comBook at g1
  unfold comTxn at g2
  rw [herr] at g1 g2
  have nov : D.comErr t seq = 0 ∨ D.comErr t seq = 11 → t.over = false := fun hc => by
    cases ho : t.over with
    | false => rfl
    | true =>
      unfold SysD.comErr at hc
      rw [ho] at hc
      split at hc
      · rcases hc with hc | hc <;> cases hc
      · rw [if_pos rfl] at hc
        rcases hc with hc | hc <;> cases hc
  by_cases c0 : D.comErr t seq = 0
  · rw [if_pos c0] at g1
    rw [if_pos (.inl c0)] at g2
    have e : D.com i t seq = D.ended i t (noteAll D.notes (opsL t.ops) seq) := by unfold SysD.com; rw [if_pos c0]
    rw [e]
    obtain ⟨q1, q2⟩ := end_step (y := noteAll D.notes (opsL t.ops) seq) h hn' hx ht (nov (.inl c0)) hb h2 h3 h4 h5 tx0 tx1 h6 h7 h8 (by rw [← h1]; exact g1) g2 g3
    exact sysP_of hn' q1 q2
  · rw [if_neg c0] at g1
    by_cases c1 : D.comErr t seq = 11
    · rw [if_pos c1] at g1
      rw [if_pos (.inr c1)] at g2
      have e : D.com i t seq = D.ended i t D.notes := by unfold SysD.com; rw [if_neg c0, if_pos c1]
      rw [e]
      obtain ⟨q1, q2⟩ := end_step (y := D.notes) h hn' hx ht (nov (.inr c1)) hb h2 h3 h4 h5 tx0 tx1 h6 h7 h8 (by rw [← h1]; exact g1) g2 g3
      exact sysP_of hn' q1 q2
    · rw [if_neg c1] at g1
      rw [if_neg (fun hc => hc.elim c0 c1)] at g2
      have e : D.com i t seq = D := by unfold SysD.com; rw [if_neg c0, if_neg c1]
      rw [e]
      have hm := h5 x (List.mem_of_getElem? hx)
      have hsame : D.txns.set i t = D.txns := by
        obtain ⟨hlt, rfl⟩ := List.getElem?_eq_some_iff.1 ht
        exact List.set_getElem_self hlt
      have := h.step hn' (t' := t) hx ht hb h2 h3 h4 h5 tx0 tx1 h6 h7 rfl (fun e he => he) (fun q => by
        by_cases hq : q = x.1
        · rw [if_pos hq, hq, h7 i x t hx ht]
        · rw [if_neg hq]) (by rw [hsame, h8]; rfl) g1 g2 (g3.less sub3)
      rw [h1, hsame] at this
      exact sysP_of hn' this hkS
end
end Go.Proofs.Ytnaiaacgcjikiaa
