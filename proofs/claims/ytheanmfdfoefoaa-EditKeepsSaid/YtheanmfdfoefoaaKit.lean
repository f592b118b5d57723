/- A small kit of plain lemmas about memory: slices that read as lists, rows that a call owns. No program in sight. -/
import Derived.WalkKit
import Derived.WalkSpells
import Derived.WalkLawsBesides
import Derived.Maps.AppendAt
import Derived.Deep.AppendLies
import Derived.Deep.QuietTactic
import Derived.BigQuiet
import Derived.Deep.RegionHeld3
import Derived.Lib.Hide
import Derived.Deep.AppendSrc
import Derived.Deep.DeepCutAuto
namespace Go.Proofs.Ytheanmfdfoefoaa
open Go Go.RowKit

theorem blk_add (a : Addr) (n : Nat) : (a.add n).block = a.block := by unfold Addr.add; split <;> rfl
theorem add_add' (a : Addr) (i j : Nat) : (a.add i).add j = a.add (i + j) := by
  unfold Addr.add
  by_cases hi : i = 0 <;> by_cases hj : j = 0 <;> simp [hi, hj, Nat.add_assoc]

theorem ret_bool {a b : Bool} (h : a = b) : Ending.returned (.bool a) = Ending.returned (.bool b) := by rw [h]
theorem ret_int {k : IntKind} {a b : Int} (h : a = b) : Ending.returned (.int k a) = .returned (.int k b) := by rw [h]

/-- The slice value v has n elements of sz cells each; its cells read xs. -/
def Rd (w : World) (sz : Nat) (v : Value) (n : Nat) (xs : List Value) : Prop :=
  ∃ A c, v = .slice A n c ∧ n ≤ c ∧ c ≤ maxLen ∧ xs.length = n * sz ∧
    (0 < n → ∃ ad : Addr, A = some ad ∧ ∀ j u, xs[j]? = some u → w.cell? (ad.add j) = some u)

section
variable {w w' : World} {sz n : Nat} {v : Value} {xs : List Value}
theorem Rd.keep (h : Rd w sz v n xs) (hk : ∀ p u, w.cell? p = some u → w'.cell? p = some u) : Rd w' sz v n xs := by
  obtain ⟨A, c, h1, h2, h3, h4, h5⟩ := h
  refine ⟨A, c, h1, h2, h3, h4, fun hn => ?_⟩
  obtain ⟨ad, e, hc⟩ := h5 hn
  exact ⟨ad, e, fun j u hu => hk _ _ (hc j u hu)⟩
theorem Rd.below (h : Rd w sz v n xs) (hb : Below w.heap.size w w') : Rd w' sz v n xs :=
  h.keep fun p _ hp => (hb.cell (World.block_lt_of_cell? w p hp)).trans hp
theorem Rd.drewN (h : Rd w sz v n xs) (k : Nat) : Rd (w.drewN k) sz v n xs := h
theorem Rd.drew (h : Rd w sz v n xs) : Rd w.drew sz v n xs := h
theorem Rd.alloc (h : Rd w sz v n xs) (o : Obj) : Rd (w.alloc o) sz v n xs := h.below ((Below.refl _ _).alloc (Nat.le_refl _) o)
theorem Rd.len_le (h : Rd w sz v n xs) : n ≤ maxLen := by
  obtain ⟨A, c, _, h2, h3, _⟩ := h
  omega
theorem Rd.of_own {base : Nat} {e : TypeId} (h : w.ownsRow base e sz v n xs) : Rd w sz v n xs := by
  obtain ⟨h1, h2⟩ := h
  rcases h2 with ⟨rfl, rfl⟩ | ⟨g, cap, cur, rfl, hg, hh, hnc, hcm, hsz, htk⟩
  · exact ⟨none, 0, rfl, Nat.le_refl _, Nat.zero_le _, h1, fun h => absurd h (by omega)⟩
  · refine ⟨_, cap, rfl, hnc, hcm, h1, fun _ => ⟨_, rfl, ?_⟩⟩
    exact World.ownsRow.cells (w := w) (base := base) (e := e) (size := sz) (n := n) ⟨h1, .inr ⟨g, cap, cur, rfl, hg, hh, hnc, hcm, hsz, htk⟩⟩ rfl
end

/-- A slice of things, each of which is sz cells: 'f' says which. -/
def RdT {α : Type} (w : World) (sz : Nat) (f : α → List Value) (v : Value) (l : List α) : Prop := Rd w sz v l.length (l.flatMap f)
theorem flatMap_get {α : Type} {sz : Nat} {f : α → List Value} (hf : ∀ a, (f a).length = sz) : ∀ (l : List α) (k j : Nat) (hk : k < l.length), j < sz → (l.flatMap f)[k * sz + j]? = (f l[k])[j]? := by
  intro l
  induction l with
  | nil => intro k j hk; simp at hk
  | cons a l ih =>
    intro k j hk hj
    cases k with
    | zero => simp only [List.flatMap_cons, Nat.zero_mul, Nat.zero_add, List.getElem_cons_zero]; rw [List.getElem?_append_left (by rw [hf]; exact hj)]
    | succ k =>
      have hk' : k < l.length := by simpa using hk
      simp only [List.flatMap_cons, List.getElem_cons_succ]
      rw [List.getElem?_append_right (by rw [hf, Nat.succ_mul]; omega), hf, show (k + 1) * sz + j - sz = k * sz + j from by rw [Nat.succ_mul]; omega]
      exact ih k j hk' hj
theorem flatMap_len {α : Type} {sz : Nat} {f : α → List Value} (hf : ∀ a, (f a).length = sz) (l : List α) : (l.flatMap f).length = l.length * sz := by
  induction l with
  | nil => simp
  | cons a l ih => simp only [List.flatMap_cons, List.length_append, hf, ih, List.length_cons, Nat.succ_mul]; omega
theorem RdT.at {α : Type} {w : World} {sz : Nat} {f : α → List Value} {v : Value} {l : List α} (h : RdT w sz f v l) (hf : ∀ a, (f a).length = sz) (hsz : 0 < sz) {k : Nat} (hk : k < l.length) :
    ∃ b off c, v = .slice (some ⟨b, off, none⟩) l.length c ∧ b < w.heap.size ∧ l.length ≤ c ∧ c ≤ maxLen ∧ ∀ j u, (f l[k])[j]? = some u → w.cell? ⟨b, off + k * sz + j, none⟩ = some u := by
  obtain ⟨A, c, rfl, h2, h3, _, h5⟩ := h
  obtain ⟨⟨b, off, spot⟩, rfl, hc⟩ := h5 (by omega)
  have key : ∀ j u, (f l[k])[j]? = some u → w.cell? ((⟨b, off, spot⟩ : Addr).add (k * sz + j)) = some u := by
    intro j u hu
    have hj : j < sz := by
      have := (List.getElem?_eq_some_iff.1 hu).1
      rwa [hf] at this
    exact hc _ _ (by rw [flatMap_get hf l k j hk hj]; exact hu)
  have h0 := key 0 _ (List.getElem?_eq_getElem (by rw [hf]; exact hsz))
  have hspot : spot = none := by
    have h00 := hc 0 _ (by rw [show (0 : Nat) = 0 * sz + 0 from by simp, flatMap_get hf l 0 0 (by omega) hsz]; exact List.getElem?_eq_getElem (by rw [hf]; exact hsz))
    have := World.cell?_spot h00
    simpa [Addr.add] using this
  subst hspot
  refine ⟨b, off, c, rfl, ?_, h2, h3, fun j u hu => ?_⟩
  · have := World.block_lt_of_cell? w _ h0
    rwa [blk_add] at this
  · have := key j u hu
    rwa [Addr.add_lit, ← Nat.add_assoc] at this

/-- The facts on a slice type t of elements e, z their zero value, of so many cells and bytes. -/
structure ElemT (P : Program) (t e : TypeId) (z : Value) (size bytes : Nat) : Prop where
  ht : P.underlying t = some (.slice e)
  hi : ∃ i, P.info? e = some i ∧ i.zero = some z ∧ i.size = size ∧ i.bytes = bytes
  hzs : z.cells.size = size
  hsz : 0 < size
  hbp : 0 < bytes
theorem ElemT.mk' {P : Program} {t e : TypeId} {z : Value} {size bytes : Nat} (ht : P.underlying t = some (.slice e))
    (hi : (P.info? e).map (fun i => (i.zero, i.size, i.bytes)) = some (some z, size, bytes)) (hzs : z.cells.size = size) (hsz : 0 < size) (hbp : 0 < bytes) : ElemT P t e z size bytes :=
  ⟨ht, info_parts hi, hzs, hsz, hbp⟩

section
variable {P : Program}
theorem Rd.src {w : World} {sz n : Nat} {v : Value} {xs : List Value} (h : Rd w sz v n xs) (h1 : ∀ u ∈ xs, u.oneCell' = true) {tx e' : TypeId} (hk : P.underlying tx = some (.slice e')) :
    Src P sz tx v n xs w := by
  obtain ⟨A, c, rfl, _, _, hl, hc⟩ := h
  rcases Nat.eq_zero_or_pos n with rfl | hn
  · have hx : xs = [] := List.eq_nil_of_length_eq_zero (by simpa using hl)
    subst hx
    cases A with
    | none => exact Src.ofNil w hk c
    | some ad => exact Src.ofSlice w hk ad 0 c [] (by simp) (by simp) (by simp)
  · obtain ⟨ad, rfl, hcc⟩ := hc hn
    exact Src.ofSlice w hk ad n c xs hl hcc h1

theorem storeCells_row (P : Program) {w : World} {g o : Nat} {t : TypeId} {cur : Array Value} {vs : List Value} (hg : w.heap[g]? = some (.cells cur t (0, 0))) (hl : o + vs.length ≤ cur.size) (h1 : ∀ v ∈ vs, v.oneCell' = true) :
    w.setCells g o vs = w.setRow g (cur.toList.take o ++ vs ++ cur.toList.drop (o + vs.length)).toArray := by
  have a := run_storeCells_at P g o t vs 0 cur w hg (by simpa using hl) h1
  have b := run_storeCells_cells (P := P) g o vs 0 w (fun j hj => by
    simp [World.cell?, hg]; omega) (fun j _ => by simp [World.frozen?, hg]) h1
  rw [a] at b
  injection b with _ h
  simpa using h.symm

/-- 'append(v, x..)', v nil or a row of the call's own, x any source. -/
theorem run_app {t e : TypeId} {z : Value} {size bytes : Nat} (E : ElemT P t e z size bytes) {w : World} {base : Nat} {v : Value} {n : Nat} {xs : List Value} (hown : w.ownsRow base e size v n xs)
    {tx ty : TypeId} {x : Value} {m : Nat} {news : List Value} (hs : Src P size tx x m news w) (hbytes : (n + m) * bytes ≤ 140737488355328) (hbase : base ≤ w.heap.size) :
    ∃ v' w', (Builtin.append_ #[t, tx] ty #[v, x]).run P w = .ok v' w' ∧ w'.ownsRow base e size v' (n + m) (xs ++ news) ∧ w.grownBy w' v.ownBlock ∧
      (v'.ownBlock = v.ownBlock ∨ v'.ownBlock = some w.heap.size) := by
  obtain ⟨ht, ⟨i, hi, hz, hsize, hby⟩, hzs, hsz, hbp⟩ := E
  have h63 : n + m ≤ maxLen := by
    have := Nat.le_mul_of_pos_right (n + m) hbp
    simp only [maxLen]; omega
  subst hsize hby
  have hlen : (xs ++ news).length = (n + m) * i.size := by rw [List.length_append, hown.1, hs.newsLen, Nat.add_mul]
  have hsmall : n + m ≤ 9223372036854775807 := by simp only [maxLen] at h63; omega
  have grown : ∀ (old : Nat), old < n + m → ∀ (row : Option Nat),
      (w.drew.alloc (.cells ((xs ++ news).toArray ++ Builtin.zeroCells z.cells (grownCap w (n + m) old e - (n + m))) e)).ownsRow base e i.size
        (.slice (some ⟨w.heap.size, 0, none⟩) (n + m) (grownCap w (n + m) old e)) (n + m) (xs ++ news) ∧
      w.grownBy (w.drew.alloc (.cells ((xs ++ news).toArray ++ Builtin.zeroCells z.cells (grownCap w (n + m) old e - (n + m))) e)) row := by
    intro old ho row
    have hge := grownCap_ge w (n + m) old e
    refine ⟨⟨hlen, .inr ⟨w.heap.size, _, _, rfl, hbase, heap_alloc_new w.drew _, hge, grownCap_le_maxLen w (n + m) old e h63, ?_, ?_⟩⟩, ⟨rfl, rfl, rfl, by simp, fun k hk _ => Below.heap_alloc w.drew _ k hk⟩⟩
    · simp only [Array.size_append, List.size_toArray, size_zeroCells, hzs, hlen, ← Nat.add_mul]
      congr 1
      omega
    · simp only [Array.toList_append]
      rw [← hlen]
      exact List.take_left
  rcases hown.2 with ⟨rfl, rfl⟩ | ⟨g, cap, cur, rfl, hbg, hg, hnc, hcm, hcs, htake⟩
  · have hx : xs = [] := List.eq_nil_of_length_eq_zero (by simpa using hown.1)
    subst hx
    by_cases hm : m = 0
    · subst hm
      have hn : news = [] := List.eq_nil_of_length_eq_zero (by simpa using hs.newsLen)
      subst hn
      refine ⟨.slice none 0 0, w, ?_, World.ownsRow_nil w base e i.size, ⟨rfl, rfl, rfl, Nat.le_refl _, fun _ _ _ => rfl⟩, .inl rfl⟩
      rcases hs.kind with ⟨e', hk⟩ | hk <;> simp [Builtin.append_, run_underlying ht, run_underlying hk, sizeOf, typeInfo, hi, hs.len, hs.cells]
    · have hr := run_append_grow_src (P := P) w t tx ty e i z ht hi hz none 0 0 [] (by simp [Builtin.firstCells]) x m news hs (by omega) (by omega) (growslice_fits (by omega) hbytes)
      have hgr := grown 0 (by omega) (Value.ownBlock (.slice none 0 0))
      exact ⟨_, _, hr, hgr.1, hgr.2, .inr rfl⟩
  · by_cases hroom : n + m ≤ cap
    · have hfit : n * i.size + news.length ≤ cur.size := by rw [hs.newsLen, hcs, ← Nat.add_mul]; exact Nat.mul_le_mul_right _ hroom
      have hr := run_append_room_src (P := P) w t tx ty e i ht hi g 0 n cap x m news hs hroom (fun j hj => by
        simp [World.cell?, hg]; omega) (fun j _ => by simp [World.frozen?, hg])
      rw [Nat.zero_add, storeCells_row P hg hfit hs.one] at hr
      refine ⟨_, _, hr, ⟨hlen, .inr ⟨g, cap, _, rfl, hbg, setRow_heap w g cur _ e _ hg, hroom, hcm, ?_, ?_⟩⟩, ⟨rfl, rfl, rfl, by simp, fun k _ hk => setRow_other w g k _ (fun e => hk (by simp [Value.ownBlock, e]))⟩, .inl rfl⟩
      · simp only [List.size_toArray, List.length_append, List.length_take, List.length_drop, Array.length_toList]
        omega
      · rw [htake, ← hlen]
        exact List.take_left
    · have holds : ∀ j u, xs[j]? = some u → w.cell? ((⟨g, 0, none⟩ : Addr).add j) = some u := hown.cells (g := g) rfl
      have hr := run_append_grow_src (P := P) w t tx ty e i z ht hi hz (some ⟨g, 0, none⟩) n cap xs (run_firstCells_some w.drew i.size n ⟨g, 0, none⟩ n cap xs hown.1 (by simpa using holds)) x m news hs (by omega) (by omega) (growslice_fits (by omega) hbytes)
      have hgr := grown cap (by omega) (Value.ownBlock (.slice (some ⟨g, 0, none⟩) n cap))
      exact ⟨_, _, hr, hgr.1, hgr.2, .inr rfl⟩

theorem wp_app {o : Oper} {a : Act} {K : Act → World → Prop} {Q : Exit → Act → World → Prop} {t e : TypeId} {z : Value} {size bytes : Nat} (E : ElemT P t e z size bytes) (s x : Operand) {tx : TypeId}
    (ho : o.op = .call { callee := .builtin .append, args := #[s, x], argTypes := #[t, tx] }) {w : World} {base : Nat} {v : Value} {n : Nat} {xs : List Value} (hown : w.ownsRow base e size v n xs) (hs : a.eval s = v)
    {y : Value} {m : Nat} {news : List Value} (hx : a.eval x = y) (hsrc : Src P size tx y m news w) (hbytes : (n + m) * bytes ≤ 140737488355328) (hbase : base ≤ w.heap.size)
    (h : ∀ v' w', w'.ownsRow base e size v' (n + m) (xs ++ news) → w.grownBy w' v.ownBlock → (v'.ownBlock = v.ownBlock ∨ v'.ownBlock = some w.heap.size) → K (a.put o.dst v') w') : o.wp P a w K Q := by
  obtain ⟨v', w', hr, h2, h3, h4⟩ := run_app E hown (ty := o.type) hsrc hbytes hbase
  unfold Oper.wp execOp
  simp only [ho, resolve, invoke, builtin, Sem.run_bind, Sem.run_pure, Result.andThen_ok, List.map_toArray, List.map_cons, List.map_nil, hs, hx, hr]
  exact h v' w' h2 h3 h4
theorem wpL_app {ops : Array Oper} {rest : List Oper} {o : Oper} {a : Act} {Q : Exit → Act → World → Prop} {t e : TypeId} {z : Value} {size bytes : Nat} (E : ElemT P t e z size bytes) (s x : Operand) (hgd : o.guard = none) {tx : TypeId}
    (ho : o.op = .call { callee := .builtin .append, args := #[s, x], argTypes := #[t, tx] }) {w : World} {base : Nat} {v : Value} {n : Nat} {xs : List Value} (hown : w.ownsRow base e size v n xs) (hs : a.eval s = v)
    {y : Value} {m : Nat} {news : List Value} (hx : a.eval x = y) (hsrc : Src P size tx y m news w) (hbytes : (n + m) * bytes ≤ 140737488355328) (hbase : base ≤ w.heap.size)
    (h : ∀ v' w', w'.ownsRow base e size v' (n + m) (xs ++ news) → w.grownBy w' v.ownBlock → (v'.ownBlock = v.ownBlock ∨ v'.ownBlock = some w.heap.size) → wpList P ops Q rest (a.put o.dst v') w') :
    wpList P ops Q (o :: rest) a w :=
  wpList_plain hgd fun _ hK => wp_app E s x ho hown hs hx hsrc hbytes hbase fun v' w' h2 h3 h4 => hK _ _ (h v' w' h2 h3 h4)
theorem step_app {ops : Array Oper} {o : Oper} {a : Act} {K : Act → World → Prop} {Q : Exit → Act → World → Prop} {F : Prop} {t e : TypeId} {z : Value} {size bytes : Nat} (E : ElemT P t e z size bytes) (s x : Operand) (hgd : o.guard = none) {tx : TypeId}
    (ho : o.op = .call { callee := .builtin .append, args := #[s, x], argTypes := #[t, tx] }) {w : World} {base : Nat} {v : Value} {n : Nat} {xs : List Value} (hown : w.ownsRow base e size v n xs) (hs : a.eval s = v)
    {y : Value} {m : Nat} {news : List Value} (hx : a.eval x = y) (hsrc : Src P size tx y m news w) (hbytes : (n + m) * bytes ≤ 140737488355328) (hbase : base ≤ w.heap.size)
    (h : ∀ v' w', w'.ownsRow base e size v' (n + m) (xs ++ news) → w.grownBy w' v.ownBlock → (v'.ownBlock = v.ownBlock ∨ v'.ownBlock = some w.heap.size) → K (a.put o.dst v') w') :
    if Region.wanted o (yielded ops a.tmps) = true then Oper.wp P o a w K Q else F := by
  have hw : Region.wanted o (yielded ops a.tmps) = true := by simp [Region.wanted, hgd]
  rw [if_pos hw]
  exact wp_app E s x ho hown hs hx hsrc hbytes hbase h

/-- The one element of 'append(v, u)' lies in a block of its own. -/
theorem src_one {w W : World} {u : Value} {e tx e' : TypeId} {B : Nat} (hk : P.underlying tx = some (.slice e')) (h1 : u.oneCell' = true) (hW : W.heap = (w.alloc (.cells #[u] e)).heap) (hB : w.heap.size = B) :
    Src P 1 tx (.slice (some ⟨B, 0, none⟩) 1 1) 1 [u] W := by
  subst hB
  refine Src.ofSlice _ hk _ 1 1 [u] rfl (fun j x hx => ?_) (by intro x hx; simp at hx; subst hx; exact h1)
  have := cell_one_new w u e j x hx
  unfold World.cell? at this ⊢
  rwa [hW]
/-- A slice over the head of a block that is known whole. -/
theorem Rd_block {w : World} {B sz n cap : Nat} {cs : Array Value} {e : TypeId} {fr : Nat × Nat} (hb : w.heap[B]? = some (.cells cs e fr)) (hs : cs.size = cap * sz) (hn : n ≤ cap) (hc : cap ≤ maxLen) :
    Rd w sz (.slice (some ⟨B, 0, none⟩) n cap) n (cs.toList.take (n * sz)) := by
  refine ⟨_, cap, rfl, hn, hc, ?_, fun _ => ⟨_, rfl, fun j u hu => ?_⟩⟩
  · rw [List.length_take, Array.length_toList, hs]
    exact Nat.min_eq_left (Nat.mul_le_mul_right _ hn)
  · have hu' : cs.toList[j]? = some u := by
      rw [List.getElem?_take] at hu
      split at hu
      · exact hu
      · cases hu
    exact World.news_of_block hb j u hu'
end

theorem hp_alloc (w : World) (o : Obj) : (w.alloc o).heap = w.heap.push o := rfl
theorem hp_drew (w : World) : w.drew.heap = w.heap := rfl
theorem Rd.over {w W : World} {sz n : Nat} {v : Value} {xs : List Value} (h : Rd w sz v n xs) (hW : ∀ b, b < w.heap.size → W.heap[b]? = w.heap[b]?) : Rd W sz v n xs :=
  h.keep fun p _ hp => (World.cell?_of_block (w := w) (hW _ (World.block_lt_of_cell? w p hp))).trans hp
/-- An empty slice of the call's own, '[]T{}'. -/
theorem own0 {W : World} {H base : Nat} {e : TypeId} {size : Nat} (hW : W.heap[H]? = some (.cells #[] e (0, 0))) (hb : base ≤ H) : W.ownsRow base e size (.slice (some ⟨H, 0, none⟩) 0 0) 0 [] :=
  ⟨by simp, .inr ⟨H, 0, #[], rfl, hb, hW, Nat.le_refl _, Nat.zero_le _, by simp, by simp⟩⟩
/-- One thing of several cells, in a block of its own. -/
theorem src_blk {P : Program} {W : World} {H sz : Nat} {cs : List Value} {e tx e' : TypeId} {fr : Nat × Nat} (hk : P.underlying tx = some (.slice e')) (hW : W.heap[H]? = some (.cells cs.toArray e fr)) (hl : cs.length = sz) (h1 : ∀ u ∈ cs, u.oneCell' = true) :
    Src P sz tx (.slice (some ⟨H, 0, none⟩) 1 1) 1 cs W :=
  Src.ofSlice _ hk _ 1 1 cs (by omega) (fun j u hu => World.news_of_block hW j u (by simpa using hu)) h1
theorem new_drew {w : World} {o : Obj} : (w.alloc o).drew.heap[w.heap.size]? = some o := heap_alloc_new w o
theorem new_old {w : World} {o : Obj} {H : Nat} {x : Obj} (h : w.heap[H]? = some x) : (w.alloc o).heap[H]? = some x := by
  have hlt : H < w.heap.size := by
    rcases Nat.lt_or_ge H w.heap.size with hlt | hge
    · exact hlt
    · rw [Array.getElem?_eq_none hge] at h; cases h
  exact (Below.heap_alloc w o H hlt).trans h
theorem new_at {w : World} {o : Obj} {H : Nat} (h : w.heap.size = H) : (w.alloc o).heap[H]? = some o := by
  subst h; exact heap_alloc_new w o
/-- A piece of a slice. -/
theorem Rd_sub {w : World} {g n c i j sz : Nat} {xs : List Value} (h : Rd w sz (.slice (some ⟨g, 0, none⟩) n c) n xs) (hij : i ≤ j) (hj : j ≤ n) :
    Rd w sz (.slice (some ⟨g, i * sz, none⟩) (j - i) (c - i)) (j - i) ((xs.drop (i * sz)).take ((j - i) * sz)) := by
  obtain ⟨A, c', hv, h2, h3, h4, h5⟩ := h
  injection hv with hA _ hc
  subst hA hc
  refine ⟨_, _, rfl, by omega, by omega, ?_, fun hn => ⟨_, rfl, fun k u hu => ?_⟩⟩
  · rw [List.length_take, List.length_drop, h4]
    apply Nat.min_eq_left
    have : (j - i) * sz + i * sz = j * sz := by rw [← Nat.add_mul]; congr 1; omega
    have : j * sz ≤ n * sz := Nat.mul_le_mul_right _ hj
    omega
  · obtain ⟨ad, hh, hcell⟩ := h5 (by omega)
    injection hh with hh
    subst hh
    rw [List.getElem?_take] at hu
    split at hu
    · rw [List.getElem?_drop] at hu
      have := hcell _ u hu
      rw [Addr.add_lit] at this ⊢
      rwa [Nat.zero_add] at this
    · cases hu
theorem own_cast {w : World} {base : Nat} {e : TypeId} {size n n' : Nat} {v : Value} {xs xs' : List Value} (h : w.ownsRow base e size v n xs) (hn : n = n') (hx : xs = xs') : w.ownsRow base e size v n' xs' := by
  subst hn hx; exact h
/-- What is owned stays owned, over whatever leaves all that was there; its base may be said lower. -/
theorem own_below {w w' : World} {base base' : Nat} {e : TypeId} {size n : Nat} {v : Value} {xs : List Value} (h : w.ownsRow base e size v n xs) (hb : Below w.heap.size w w') (hB : base' ≤ base) : w'.ownsRow base' e size v n xs := by
  obtain ⟨h1, h2⟩ := h
  refine ⟨h1, ?_⟩
  rcases h2 with h2 | ⟨g, cap, cur, rfl, hg, hh, r⟩
  · exact .inl h2
  · have hlt : g < w.heap.size := by
      rcases Nat.lt_or_ge g w.heap.size with hlt | hge
      · exact hlt
      · rw [Array.getElem?_eq_none hge] at hh; cases hh
    exact .inr ⟨g, cap, cur, rfl, Nat.le_trans hB hg, (hb.block g hlt).trans hh, r⟩
theorem below_drewN {B : Nat} {a w : World} (h : Below B a w) (n : Nat) : Below B a (w.drewN n) := ⟨h.os, h.tape, h.output, h.size, h.block⟩
theorem grow_below {B : Nat} {w0 W w' : World} {row : Option Nat} (hg : W.grownBy w' row) (hW : Below B w0 W) (hB : B ≤ w0.heap.size) (hr : ∀ k, row = some k → B ≤ k) : Below B w0 w' :=
  hW.grown hg (Nat.le_trans hB hW.size) hr
/-- A block that came later is no row that was owned before. -/
theorem own_far {w : World} {base : Nat} {e : TypeId} {size n : Nat} {v : Value} {xs : List Value} (h : w.ownsRow base e size v n xs) {k : Nat} (hk : w.heap.size ≤ k) : some k ≠ v.ownBlock :=
  fun he => absurd (h.lt k he.symm).2 (by omega)
theorem at_far {v v' : Value} {H k : Nat} (hat : v'.ownBlock = v.ownBlock ∨ v'.ownBlock = some H) (hv : some k ≠ v.ownBlock) (hH : k ≠ H) : some k ≠ v'.ownBlock := by
  rcases hat with h | h <;> rw [h]
  · exact hv
  · simpa using hH
/-- What a caller knows behind an append: old memory is as it was. -/
theorem below_app {B : Nat} {w0 w w' : World} {base : Nat} {e : TypeId} {size n : Nat} {v : Value} {xs : List Value} (hb : Below B w0 w) (hg : w.grownBy w' v.ownBlock) (hown : w.ownsRow base e size v n xs) (hbase : B ≤ base) (hB : B ≤ w.heap.size) : Below B w0 w' :=
  hb.grown hg hB fun k hk => Nat.le_trans hbase (hown.lt k hk).1
#print axioms wpL_app
#print axioms step_app
#print axioms Rd.of_own
end Go.Proofs.Ytheanmfdfoefoaa
