/- Abstract values: append, calls, one operation in one word. Plain: over any program. -/
import Derived.Test.YtpemfmlonamikaaAvSem
namespace Go.Proofs.Ytpemfmlonamikaa.Av
open Go Go.RowKit

section
variable {P : Program}
/-- 'append(v, x..)', v nil or a row of the call's own: only the row that comes out was written. -/
theorem run_app2 {t e : TypeId} {z : Value} {size bytes : Nat} (E : ElemT P t e z size bytes) {w : World} {base : Nat} {v : Value} {n : Nat} {xs : List Value} (hown : w.ownsRow base e size v n xs)
    {tx ty : TypeId} {x : Value} {m : Nat} {news : List Value} (hs : Src P size tx x m news w) (hbytes : (n + m) * bytes ≤ 140737488355328) (hbase : base ≤ w.heap.size) :
    ∃ v' w', (Builtin.append_ #[t, tx] ty #[v, x]).run P w = .ok v' w' ∧ w'.ownsRow base e size v' (n + m) (xs ++ news) ∧ w.grownBy w' v'.ownBlock ∧
      (v'.ownBlock = v.ownBlock ∨ v'.ownBlock = some w.heap.size) := by
  obtain ⟨ht, ⟨i, hi, hz, hsize, hby⟩, hzs, hsz, hbp⟩ := E
  have h63 : n + m ≤ maxLen := by
    have := Nat.le_mul_of_pos_right (n + m) hbp
    simp only [maxLen]; omega
  subst hsize hby
  have hlen : (xs ++ news).length = (n + m) * i.size := by rw [List.length_append, hown.1, hs.newsLen, Nat.add_mul]
  have hsmall : n + m ≤ 9223372036854775807 := by simp only [maxLen] at h63; omega
  have grown : ∀ (old : Nat), old < n + m → ∀ (row : Option Nat),
      (w.drew.alloc (.cells ((xs ++ news).toArray ++ Builtin.zeroCells z.cells (grownCap w (n + m) old e - (n + m))) e)).ownsRow base e i.size
        (.slice (some ⟨w.heap.size, 0, none⟩) (n + m) (grownCap w (n + m) old e)) (n + m) (xs ++ news) ∧
      w.grownBy (w.drew.alloc (.cells ((xs ++ news).toArray ++ Builtin.zeroCells z.cells (grownCap w (n + m) old e - (n + m))) e)) row := by
    intro old ho row
    have hge := grownCap_ge w (n + m) old e
    refine ⟨⟨hlen, .inr ⟨w.heap.size, _, _, rfl, hbase, heap_alloc_new w.drew _, hge, grownCap_le_maxLen w (n + m) old e h63, ?_, ?_⟩⟩, ⟨rfl, rfl, rfl, by simp, fun k hk _ => Below.heap_alloc w.drew _ k hk⟩⟩
    · simp only [Array.size_append, List.size_toArray, size_zeroCells, hzs, hlen, ← Nat.add_mul]
      congr 1
      omega
    · simp only [Array.toList_append]
      rw [← hlen]
      exact List.take_left
  rcases hown.2 with ⟨rfl, rfl⟩ | ⟨g, cap, cur, rfl, hbg, hg, hnc, hcm, hcs, htake⟩
  · have hx : xs = [] := List.eq_nil_of_length_eq_zero (by simpa using hown.1)
    subst hx
    by_cases hm : m = 0
    · subst hm
      have hn : news = [] := List.eq_nil_of_length_eq_zero (by simpa using hs.newsLen)
      subst hn
      refine ⟨.slice none 0 0, w, ?_, World.ownsRow_nil w base e i.size, ⟨rfl, rfl, rfl, Nat.le_refl _, fun _ _ _ => rfl⟩, .inl rfl⟩
      rcases hs.kind with ⟨e', hk⟩ | hk <;> simp [Builtin.append_, run_underlying ht, run_underlying hk, sizeOf, typeInfo, hi, hs.len, hs.cells]
    · have hr := run_append_grow_src (P := P) w t tx ty e i z ht hi hz none 0 0 [] (by simp [Builtin.firstCells]) x m news hs (by omega) (by omega) (growslice_fits (by omega) hbytes)
      have hgr := grown 0 (by omega) (some w.heap.size)
      exact ⟨_, _, hr, hgr.1, hgr.2, .inr rfl⟩
  · by_cases hroom : n + m ≤ cap
    · have hfit : n * i.size + news.length ≤ cur.size := by rw [hs.newsLen, hcs, ← Nat.add_mul]; exact Nat.mul_le_mul_right _ hroom
      have hr := run_append_room_src (P := P) w t tx ty e i ht hi g 0 n cap x m news hs hroom (fun j hj => by
        simp [World.cell?, hg]; omega) (fun j _ => by simp [World.frozen?, hg])
      rw [Nat.zero_add, storeCells_row P hg hfit hs.one] at hr
      refine ⟨_, _, hr, ⟨hlen, .inr ⟨g, cap, _, rfl, hbg, setRow_heap w g cur _ e _ hg, hroom, hcm, ?_, ?_⟩⟩, ⟨rfl, rfl, rfl, by simp, fun k _ hk => setRow_other w g k _ (fun e => hk (by simp [Value.ownBlock, e]))⟩, .inl rfl⟩
      · simp only [List.size_toArray, List.length_append, List.length_take, List.length_drop, Array.length_toList]
        omega
      · rw [htake, ← hlen]
        exact List.take_left
    · have holds : ∀ j u, xs[j]? = some u → w.cell? ((⟨g, 0, none⟩ : Addr).add j) = some u := hown.cells (g := g) rfl
      have hr := run_append_grow_src (P := P) w t tx ty e i z ht hi hz (some ⟨g, 0, none⟩) n cap xs (run_firstCells_some w.drew i.size n ⟨g, 0, none⟩ n cap xs hown.1 (by simpa using holds)) x m news hs (by omega) (by omega) (growslice_fits (by omega) hbytes)
      have hgr := grown cap (by omega) (some w.heap.size)
      exact ⟨_, _, hr, hgr.1, hgr.2, .inr rfl⟩
theorem own_keep {w w' : World} {base : Nat} {e : TypeId} {size n m : Nat} {v v' : Value} {xs news : List Value} (h : w.ownsRow base e size v n xs) (h' : w'.ownsRow base e size v' (n + m) (xs ++ news)) (hg : w.grownBy w' v'.ownBlock) (hv : v'.ownBlock = v.ownBlock ∨ v'.ownBlock = some w.heap.size)
    {b o : Nat} {u : Value} (hc : w.cell? ⟨b, o, none⟩ = some u) (ho : v.ownBlock = some b → o < n * size) : w'.cell? ⟨b, o, none⟩ = some u := by
  have hb := cell_lt hc
  by_cases hbv : some b = v'.ownBlock
  · rcases hv with hv | hv
    · have hvb : v.ownBlock = some b := by rw [← hv, ← hbv]
      have hlt := ho hvb
      have hx : o < xs.length := by rw [h.1]; exact hlt
      have hA : ∀ {w : World} {v : Value} {n : Nat} {xs : List Value}, w.ownsRow base e size v n xs → v.ownBlock = some b → ∀ j u, xs[j]? = some u → w.cell? ⟨b, j, none⟩ = some u := by
        intro w v n xs h hvb j u hu
        rcases h.2 with ⟨rfl, _⟩ | ⟨g, cap, cur, rfl, _⟩
        · cases hvb
        · have : g = b := by simpa [Value.ownBlock] using hvb
          subst this
          have := h.cells (g := g) rfl j u hu
          simpa [Addr.add_lit] using this
      have h1 := hA h hvb o _ (List.getElem?_eq_getElem hx)
      have h2 := hA h' hbv.symm o xs[o] (by rw [List.getElem?_append_left hx]; exact List.getElem?_eq_getElem hx)
      rw [hc] at h1
      rw [h2, h1]
    · rw [hv] at hbv
      injection hbv with hbv
      omega
  · have := hg.block b hb hbv
    rw [World.cell?_of_block (w := w) this]
    exact hc
end
section
variable {P : Program} {T : Tbl} {N : Nat} {F : Nat → Nat → Prop} {w0 w w' : World} {s : AS} {a : Act} {tok : Tok} {bx : Bx} {o : Oper} {K : AS → Prop} {Kc : Act → World → Prop} {Q : Exit → Act → World → Prop}
theorem flatten_len {items : List (List AV)} {sz : Nat} (hi : ∀ it ∈ items, it.length = sz) : items.flatten.length = items.length * sz := by
  induction items with
  | nil => simp
  | cons i items ih => rw [List.flatten_cons, List.length_append, hi i (by simp), ih fun it h => hi it (by simp [h]), List.length_cons, Nat.succ_mul]; omega
/-- A slice's cells, as values. -/
theorem rep_vals {items : List (List AV)} {v : Value} {sz : Nat} (h : Rep w F (.sl items) v) (hi : ∀ it ∈ items, it.length = sz) :
    ∃ xs, Rd w sz v items.length xs ∧ (∀ u ∈ xs, u.oneCell' = true) ∧ ∀ (j : Nat) (x : AV) (u : Value), items.flatten[j]? = some x → xs[j]? = some u → Rep w F x u := by
  cases h with
  | sl _ sz' A c b off val hi' hc hm ha hcell hF h1 hr =>
    have hat : ∀ (j : Nat) (u : Value), ((List.range items.flatten.length).map val)[j]? = some u → j < items.flatten.length ∧ u = val j := fun j u hu => by
      rw [List.getElem?_map, Option.map_eq_some_iff] at hu
      obtain ⟨k, hk, rfl⟩ := hu
      obtain ⟨hlt, e⟩ := List.getElem?_eq_some_iff.1 hk
      simp only [List.length_range] at hlt
      simp only [List.getElem_range] at e
      subst e
      exact ⟨hlt, rfl⟩
    refine ⟨(List.range items.flatten.length).map val, ⟨A, c, rfl, hc, hm, by simp only [List.length_map, List.length_range]; exact flatten_len hi, fun hn => ?_⟩, fun u hu => ?_, fun j x u hx hu => ?_⟩
    · refine ⟨⟨b, off, none⟩, ha (fun e => by subst e; simp at hn), fun j u hu => ?_⟩
      obtain ⟨hj, rfl⟩ := hat j u hu
      rw [Addr.add_lit]
      exact hcell j _ (List.getElem?_eq_getElem hj)
    · obtain ⟨j, hj⟩ := List.mem_iff_getElem?.1 hu
      obtain ⟨hjn, rfl⟩ := hat j u hj
      exact h1 j _ (List.getElem?_eq_getElem hjn)
    · obtain ⟨hjn, rfl⟩ := hat j u hu
      exact hr j x hx
theorem rep_of_own {base : Nat} {e : TypeId} {sz n : Nat} {v : Value} {xs : List Value} {items : List (List AV)} (h : w.ownsRow base e sz v n xs) (hn : items.length = n) (hi : ∀ it ∈ items, it.length = sz) (h1 : ∀ u ∈ xs, u.oneCell' = true)
    (hr : ∀ (j : Nat) (x : AV) (u : Value), items.flatten[j]? = some x → xs[j]? = some u → Rep w F x u) (hF : ∀ g, v.ownBlock = some g → ∀ o, o < n * sz → ¬ F g o) : Rep w F (.sl items) v := by
  have hl := flatten_len hi
  subst hn
  have hxl := h.1
  rcases h.2 with ⟨rfl, h0⟩ | ⟨g, cap, cur, rfl, _, _, hnc, hcm, _, _⟩
  · obtain rfl := List.eq_nil_of_length_eq_zero h0
    exact rep_sl_nil rfl (by simp)
  · have hcl := h.cells (g := g) rfl
    have hu : ∀ j x, items.flatten[j]? = some x → xs[j]? = some (xs.getD j undef) := fun j x hx => by
      have := (List.getElem?_eq_some_iff.1 hx).1
      rw [List.getD_eq_getElem?_getD, List.getElem?_eq_getElem (by omega)]; rfl
    refine Rep.sl items sz _ cap g 0 (fun j => xs.getD j undef) hi hnc hcm (fun _ => rfl) (fun j x hx => ?_) (fun j x hx => ?_) (fun j x hx => h1 _ (List.mem_of_getElem? (hu j x hx))) (fun j x hx => hr j x _ hx (hu j x hx))
    · have := hcl j _ (hu j x hx)
      rwa [Addr.add_lit] at this
    · rw [Nat.zero_add]
      refine hF g rfl j ?_
      have := (List.getElem?_eq_some_iff.1 hx).1
      omega
theorem own_of_tip {id : Nat} {e : TypeId} {items : List (List AV)} {v : Value} {xs : List Value} (g : Good P N F w0 s a w tok bx) (ht : Tip P w tok id e items v) (hx : Rd w (szOf P e) v items.length xs) : w.ownsRow w0.heap.size e (szOf P e) v items.length xs := by
  obtain ⟨A, c, hv, hc1, hc2, hl, hcell⟩ := hx
  refine ⟨hl, ?_⟩
  rcases ht.2 with ⟨h1, h2, _⟩ | ⟨gb, cap, cur, h1, h2, h3, h4, h5, h6⟩
  · exact .inl ⟨h1, by rw [h2]; rfl⟩
  · refine .inr ⟨gb, cap, cur, h1, (g.tokB id gb _ h2).1, h3, h5, h6, h4, ?_⟩
    have hle : items.length * szOf P e ≤ cur.size := by rw [h4]; exact Nat.mul_le_mul_right _ h5
    apply List.ext_getElem?
    intro j
    by_cases hj : j < items.length * szOf P e
    · have h0 : 0 < items.length := by
        rcases Nat.eq_zero_or_pos items.length with h | h
        · rw [h] at hj; simp at hj
        · exact h
      obtain ⟨ad, hA, hcl⟩ := hcell h0
      rw [h1] at hv
      injection hv with hA' _ _
      rw [hA] at hA'
      injection hA' with hA'
      subst hA'
      have hu : xs[j]? = some (xs[j]'(by omega)) := List.getElem?_eq_getElem (by omega)
      have h7 := hcl j _ hu
      have h8 : cur.toList[j]? = some (cur.toList[j]'(by simp; omega)) := List.getElem?_eq_getElem (by simp; omega)
      have h9 := World.news_of_block h3 j _ h8
      rw [h7] at h9
      rw [List.getElem?_take_of_lt hj, h8, hu]
      exact h9.symm
    · rw [List.getElem?_eq_none (by simp; omega), List.getElem?_eq_none (by omega)]
theorem deown_own {id : Nat} {e : TypeId} {items : List (List AV)} : (AV.own id e items).deown id = .sl items := by
  show (bif Nat.beq id id then AV.sl items else AV.own id e items) = _
  simp
theorem s_app {c : Call} {x y : Operand} {t tx : TypeId} {id : Nat} {e : TypeId} {items news : List (List AV)} {I I' : SlI} (ho : o.op = .call c) (hc : c.callee = .builtin .append) (hx : c.args.toList = [x, y]) (hat : c.argTypes.toList = [t, tx]) (hT : T.Ok P) (hI : lk? T.sls t = some I) (hI' : lk? T.sls tx = some I')
    (hox : s.eval x = .own id e items) (hny : (s.eval y).its? = some news) (hIe : I.e = e) (hnl : ∀ it ∈ news, it.length = I.size) (hby : (items.length + news.length) * I.bytes ≤ 140737488355328)
    (g : Good P N F w0 s a w tok bx) (hd : ∀ k, o.dst = some k → k < N) (h : K ((s.deown id).put o.dst (.own id e (items ++ news)))) (hK : ∀ s' a' w', K s' → R P N F w0 s' a' w' → Kc a' w') : o.wp P a w Kc Q := by
  obtain ⟨callee, args, argTypes⟩ := c
  obtain rfl : args = #[x, y] := Array.toList_inj.1 hx
  obtain rfl : argTypes = #[t, tx] := Array.toList_inj.1 hat
  simp only at hc
  subst hc
  subst hIe
  have E := sls_ok hT hI
  have hsz : szOf P I.e = I.size := by
    obtain ⟨i, hi, _, h2, _⟩ := E.hi
    simp [szOf, hi, h2]
  have he := g.eval x
  rw [hox] at he
  obtain ⟨hrx, htip⟩ := he
  have hil := htip.1
  rw [hsz] at hil
  obtain ⟨xs, hxr, hx1, hxr2⟩ := rep_vals hrx hil
  have hown := own_of_tip g htip (by rw [hsz]; exact hxr)
  rw [hsz] at hown
  obtain ⟨ys, hyr, hy1, hyr2⟩ := rep_vals (rep_its (g.eval y) hny) hnl
  have hsrc := Rd.src (P := P) hyr hy1 (sls_ok hT hI').ht
  obtain ⟨v', w', hrun, hown', hg, hv⟩ := run_app2 E (ty := o.type) hown hsrc hby g.below.size
  have hil' : ∀ it ∈ items ++ news, it.length = I.size := fun it hit => (List.mem_append.1 hit).elim (hil it) (hnl it)
  have hBv : ∀ b, v'.ownBlock = some b → w0.heap.size ≤ b ∧ b < w'.heap.size := fun b hb => hown'.lt b hb
  have hob : ∀ b, (a.eval x).ownBlock = some b → tok id = some (b, items.length * I.size) := fun b hb => by
    rcases htip.2 with ⟨h1, _⟩ | ⟨gb, cap, cur, h1, h2, _⟩
    · rw [h1] at hb; cases hb
    · rw [h1] at hb
      have : gb = b := by simpa [Value.ownBlock] using hb
      rw [← this, ← hsz]; exact h2
  -- no one else's block is the row's
  have hnt : ∀ j b u, j ≠ id → tok j = some (b, u) → v'.ownBlock ≠ some b := fun j b u hj ht hb => by
    rcases hv with hv | hv
    · rw [hv] at hb
      exact hj (g.inj j id b _ _ ht (hob b hb))
    · rw [hv] at hb
      injection hb with hb
      have := (g.tokB j b u ht).2
      omega
  have hnb : ∀ j b, bx j = some b → v'.ownBlock ≠ some b := fun j b ht hb => by
    rcases hv with hv | hv
    · rw [hv] at hb
      exact g.apart id j b _ (hob b hb) ht
    · rw [hv] at hb
      injection hb with hb
      have := (g.bxB j b ht).2
      omega
  let tok' : Tok := fun j => if j = id then v'.ownBlock.map fun b => (b, (items.length + news.length) * I.size) else tok j
  have hk : ∀ b o u, ¬ Wr F tok bx b o → w.cell? ⟨b, o, none⟩ = some u → w'.cell? ⟨b, o, none⟩ = some u ∧ ¬ Wr F tok' bx b o := by
    intro b o u hn hc
    refine ⟨own_keep hown hown' hg hv hc fun hb => ?_, ?_⟩
    · have := hob b hb
      refine Nat.lt_of_not_le fun hle => hn (.inr (.inl ⟨id, _, this, hle⟩))
    · rintro (h | ⟨j, u', hj, hle⟩ | ⟨j, hj⟩)
      · exact hn (.inl h)
      · replace hj : (if j = id then v'.ownBlock.map fun b => (b, (items.length + news.length) * I.size) else tok j) = some (b, u') := hj
        split at hj
        · rw [Option.map_eq_some_iff] at hj
          obtain ⟨b', hb', e⟩ := hj
          injection e with e1 e2
          subst e1 e2
          rcases hv with hv | hv
          · rw [hv] at hb'
            exact hn (.inr (.inl ⟨id, _, hob _ hb', Nat.le_trans (Nat.mul_le_mul_right _ (by omega)) hle⟩))
          · rw [hv] at hb'
            injection hb' with hb'
            have := cell_lt hc
            omega
        · exact hn (.inr (.inl ⟨j, u', hj, hle⟩))
      · exact hn (.inr (.inr ⟨j, hj⟩))
  have hrep' : Rep w' (Wr F tok' bx) (.sl (items ++ news)) v' := by
    refine rep_of_own hown' (by simp) hil' (fun u hu => (List.mem_append.1 hu).elim (hx1 u) (hy1 u)) (fun j c u hc hu => ?_) (fun b hb o ho => ?_)
    · rw [List.flatten_append] at hc
      have hfl := flatten_len hil
      have hxl : xs.length = items.length * I.size := hown.1
      by_cases hj : j < xs.length
      · rw [List.getElem?_append_left hj] at hu
        rw [List.getElem?_append_left (by omega)] at hc
        exact (hxr2 j c u hc hu).keep hk
      · rw [List.getElem?_append_right (by omega)] at hu
        rw [List.getElem?_append_right (by omega), hfl, ← hxl] at hc
        exact (hyr2 _ c u hc hu).keep hk
    · rintro (h | ⟨j, u', hj, hle⟩ | ⟨j, hj⟩)
      · have := g.hF b o h
        have := (hBv b hb).1
        omega
      · replace hj : (if j = id then v'.ownBlock.map fun b => (b, (items.length + news.length) * I.size) else tok j) = some (b, u') := hj
        split at hj
        · rw [hb] at hj
          simp only [Option.map_some, Option.some.injEq, Prod.mk.injEq, true_and] at hj
          omega
        · exact hnt j b u' (by assumption) hj hb
      · exact hnb j b hj hb
  have htip' : Tip P w' tok' id I.e (items ++ news) v' := by
    refine ⟨by rw [hsz]; exact hil', ?_⟩
    rcases hown'.2 with ⟨h1, h2⟩ | ⟨gb, cap, cur, h1, h2, h3, h4, h5, h6, _⟩
    · refine .inl ⟨h1, List.eq_nil_of_length_eq_zero (by rw [List.length_append]; exact h2), ?_⟩
      show (if id = id then v'.ownBlock.map _ else tok id) = none
      rw [if_pos rfl, h1]; rfl
    · refine .inr ⟨gb, cap, cur, by rw [List.length_append]; exact h1, ?_, h3, by rw [hsz]; exact h6, by rw [List.length_append]; exact h4, h5⟩
      show (if id = id then v'.ownBlock.map _ else tok id) = _
      rw [if_pos rfl, h1, hsz, List.length_append]; rfl
  have hgood : Good P N F w0 (s.deown id) a w' tok' bx := by
    have g1 := g.deown id
    refine ⟨grow_below hg g.below (Nat.le_refl _) (fun k hk => (hBv k hk).1), g.hF, g.size, g.defers, fun j b u hj => ?_, fun j b hj => ?_, fun i j b u u' hi hj => ?_, g.bxI, fun i j b u hi => ?_, fun t => ?_, fun j cs hcs => ?_⟩
    · replace hj : (if j = id then v'.ownBlock.map fun b => (b, (items.length + news.length) * I.size) else tok j) = some (b, u) := hj
      split at hj
      · rw [Option.map_eq_some_iff] at hj
        obtain ⟨b', hb', e⟩ := hj
        injection e with e1 e2
        subst e1
        exact hBv _ hb'
      · have := g.tokB j b u hj; have := hg.size; omega
    · have := g.bxB j b hj; have := hg.size; omega
    · replace hi : (if i = id then v'.ownBlock.map fun b => (b, (items.length + news.length) * I.size) else tok i) = some (b, u) := hi
      replace hj : (if j = id then v'.ownBlock.map fun b => (b, (items.length + news.length) * I.size) else tok j) = some (b, u') := hj
      split at hi <;> split at hj
      · omega
      · rw [Option.map_eq_some_iff] at hi
        obtain ⟨b', hb', e⟩ := hi
        injection e with e1 e2
        subst e1
        exact absurd hb' (hnt j _ _ (by assumption) hj)
      · rw [Option.map_eq_some_iff] at hj
        obtain ⟨b', hb', e⟩ := hj
        injection e with e1 e2
        subst e1
        exact absurd hb' (hnt i _ _ (by assumption) hi)
      · exact g.inj i j b u u' hi hj
    · replace hi : (if i = id then v'.ownBlock.map fun b => (b, (items.length + news.length) * I.size) else tok i) = some (b, u) := hi
      split at hi
      · rw [Option.map_eq_some_iff] at hi
        obtain ⟨b', hb', e⟩ := hi
        injection e with e1 e2
        subst e1
        exact fun hb => hnb j _ hb hb'
      · exact g.apart i j b u hi
    · refine (g1.slots t).keep hk (fun i e' its he => ?_) fun _ _ _ => rfl
      rw [AS.get_deown] at he
      have hne := (not_own he).1
      refine ⟨by show (if i = id then _ else tok i) = tok i; rw [if_neg hne], fun b u ht => hg.block b (g.tokB i b u ht).2 fun hb => hnt i b u hne ht hb.symm⟩
    · obtain ⟨b, cur, e', h1, h2, h3, h4, h5⟩ := g.boxes j cs hcs
      exact ⟨b, cur, e', h1, (hg.block b (g.bxB j b h1).2 fun hb => hnb j b h1 hb.symm).trans h2, h3, h4, fun j c u hc hu => (h5 j c u hc hu).keep hk⟩
  refine wp_val (v := v') (w' := w') ?_ (hK _ _ _ h ⟨tok', bx, hgood.put hd ⟨hrep', htip'⟩⟩)
  unfold execOp
  simp only [ho, resolve, invoke, builtin, Sem.run_bind, Sem.run_pure, Result.andThen_ok, List.map_toArray, List.map_cons, List.map_nil, hrun]
theorem s_call {c : Call} {f : FuncId} {res : AV} (ho : o.op = .call c) (hc : c.callee = .value (.func f)) (hA : ACalls P f (c.args.toList.map fun x => (s.eval x).view) res) (hp : ∀ x ∈ c.args.toList, (s.eval x).view.pure = true)
    (g : Good P N F w0 s a w tok bx) (hd : ∀ k, o.dst = some k → k < N) (h : K (s.put o.dst res)) (hK : ∀ s' a' w', K s' → R P N F w0 s' a' w' → Kc a' w') : o.wp P a w Kc Q := by
  obtain ⟨callee, args, argTypes⟩ := c
  simp only at hc hA hp
  subst hc
  obtain ⟨hok, hA⟩ := hA
  have hrun : (execOp a.eval o).run P w = .ok (.enter f (args.map a.eval)) w := by
    unfold okF at hok
    split at hok
    · rename_i fn hfn
      simp only [Bool.and_eq_true, Bool.not_eq_true', Option.isSome_iff_exists] at hok
      obtain ⟨h1, b, hb⟩ := hok
      unfold execOp
      simp only [ho, resolve, Deferred.ofValue, Act.eval, Sem.run_bind, Sem.run_pure, Result.andThen_ok, invoke, callFunc, run_program, hfn]
      simp [h1, hb]
    · cases hok
  have hcall := hA w (Wr F tok bx) (args.toList.map a.eval) (fun b o hw => by
      rcases hw with h | ⟨j, u, hj, _⟩ | ⟨j, hj⟩
      · exact Nat.lt_of_lt_of_le (g.hF b o h) g.below.size
      · exact (g.tokB j b u hj).2
      · exact (g.bxB j b hj).2) (by simp) (fun j x v hx hv => by
      rw [List.getElem?_map, Option.map_eq_some_iff] at hx hv
      obtain ⟨y, hy, rfl⟩ := hx
      obtain ⟨y', hy', rfl⟩ := hv
      rw [hy] at hy'
      injection hy' with hy'
      subst hy'
      exact (g.eval y).view (hp y (List.mem_of_getElem? hy)))
  unfold Oper.wp
  rw [hrun, Oper.upon_enter]
  have e : (args.toList.map a.eval).toArray = args.map a.eval := by
    apply Array.toList_inj.1; simp
  rw [e] at hcall
  refine hcall.mono fun e w' ⟨v, he, hr, hb⟩ => ?_
  subst he
  exact hK _ _ _ h ⟨tok, bx, (g.world hb).put hd (.of_rep hr)⟩
end
end Go.Proofs.Ytpemfmlonamikaa.Av
