/- assartref17: put. -/
import Derived.Test.YtheanmfdfoefoaaRefLev
import Derived.Deep.CutBlock
namespace Go.Proofs.Ytheanmfdfoefoaa
open Go Go.RowKit

theorem takeWhile_stop {α : Type} {p : α → Bool} : ∀ (l : List α) (k : Nat), (l.take k).all p = true → (∀ h : k < l.length, p l[k] = false) → k ≤ l.length → l.takeWhile p = l.take k ∧ l.dropWhile p = l.drop k := by
  intro l
  induction l with
  | nil => intro k _ _ _; simp
  | cons a l ih =>
    intro k h1 h2 hk
    cases k with
    | zero =>
      have := h2 (by simp)
      simp only [List.getElem_cons_zero] at this
      simp [this]
    | succ k =>
      simp only [List.take_succ_cons, List.all_cons, Bool.and_eq_true] at h1
      obtain ⟨e1, e2⟩ := ih k h1.2 (fun h => by have := h2 (by simpa using h); simpa using this) (by simpa using hk)
      simp [h1.1, e1, e2]
theorem RdT.cut {α : Type} {w : World} {sz : Nat} {f : α → List Value} {A : Option Addr} {n c : Nat} {l : List α} (h : RdT w sz f (.slice A n c) l) (hf : ∀ a, (f a).length = sz) (k m : Nat) (hkm : k ≤ m) (hm : m ≤ l.length) :
    RdT w sz f (.slice (if c = k then A else A.map (·.add (k * sz))) (m - k) (c - k)) ((l.drop k).take (m - k)) := by
  obtain ⟨A', c', e, h1, h2, h3, h4⟩ := h
  injection e with e1 e2 e3
  subst e1 e2 e3
  have hl : ((l.drop k).take (m - k)).length = m - k := by simp; omega
  refine ⟨if c = k then A else A.map (·.add (k * sz)), c - k, by rw [hl], by rw [hl]; omega, by omega, by rw [flatMap_len hf], fun hn => ?_⟩
  rw [hl] at hn
  obtain ⟨ad, rfl, hc⟩ := h4 (by omega)
  rw [if_neg (by omega)]
  refine ⟨ad.add (k * sz), rfl, fun j u hu => ?_⟩
  rw [add_add']
  refine hc _ _ ?_
  have hj : j < (m - k) * sz := by
    have := (List.getElem?_eq_some_iff.1 hu).1
    rwa [flatMap_len hf, hl] at this
  have e : l.flatMap f = (l.take k).flatMap f ++ (((l.drop k).take (m - k)).flatMap f ++ ((l.drop k).drop (m - k)).flatMap f) := by
    rw [← List.flatMap_append, List.take_append_drop, ← List.flatMap_append, List.take_append_drop]
  rw [e, List.getElem?_append_right (by rw [flatMap_len hf]; simp; rw [Nat.min_eq_left (by omega)]; omega), List.getElem?_append_left (by rw [flatMap_len hf, flatMap_len hf, hl]; simp; rw [Nat.min_eq_left (by omega)]; omega)]
  rw [flatMap_len hf, List.length_take, Nat.min_eq_left (by omega), show k * sz + j - k * sz = j from by omega]
  exact hu

theorem src_cast {P : Program} {sz m : Nat} {tx : TypeId} {y y' : Value} {news : List Value} {w : World} (h : Src P sz tx y m news w) (e : y' = y) : Src P sz tx y' m news w := e ▸ h
theorem addz (A : Option Addr) : A.map (·.add 0) = A := by cases A <;> simp [Addr.add]
set_option maxRecDepth 100000 in
set_option maxHeartbeats 1000000 in
theorem put_calls (l : List MetaD) (m : MetaD) (n : Nat) (v : Value) (w : World) (hv : RdT w 4 metaC v l) (hl : l.length ≤ 1000000) :
    Calls Try.prog 68 #[v, .agg #[.int .i64 m.file, .int .i64 m.size, .string m.first, .string m.last], .int .i64 (n : Int)] w fun e w' => ∃ v', e = .returned v' ∧
      w'.ownsRow w.heap.size 56 4 v' (putL l m n).length ((putL l m n).flatMap metaC) ∧ Below w.heap.size w w' := by
  have HV := Lib.hid hv
  obtain ⟨A, c, rfl, hnc, hcm⟩ := hv.len
  have HP : Hid (putL l m n = l.takeWhile (ahead n m) ++ m :: l.dropWhile (ahead n m)) := rfl
  generalize putL l m n = r at *
  have hn0 : (0 : Int) ≤ n := by omega
  go_enter Try.func68, Try.ntmps68
  go_upto_block 0 with (fail)
  go_cut [7] (fun s7 wx => ∃ k : Nat, k ≤ l.length ∧ s7 = .int .i64 (k : Int) ∧ Hid (l.takeWhile (ahead n m) = l.take k ∧ l.dropWhile (ahead n m) = l.drop k) ∧ Hid (wx.heap[w.heap.size]? = some (.cells #[.int .i64 m.file, .int .i64 m.size, .string m.first, .string m.last] 56 (0, 0))) ∧ Below w.heap.size w wx)
  case first =>
    go_wp2_with fail
    go_loopw [7] (fun iv wr => ∃ k : Nat, k ≤ l.length ∧ iv = .int .i64 (k : Int) ∧ Hid ((l.take k).all (ahead n m) = true) ∧ Hid (wr.heap[w.heap.size]? = some (.cells #[.int .i64 m.file, .int .i64 m.size, .string m.first, .string m.last] 56 (0, 0))) ∧ Below w.heap.size w wr)
      (fun iv _ => l.length - (intOf iv).toNat)
    case atStart => exact ⟨0, Nat.zero_le _, rfl, by show _ = _; simp, heap_alloc_new w _, (Below.refl _ _).alloc (Nat.le_refl _) _⟩
    case round =>
      obtain ⟨k, hk, rfl, hall, hblk, hb⟩ := hrel
      have hsz := hb.size
      have hcells : wr.cell? ⟨w.heap.size, 0, none⟩ = some (.int .i64 m.file) ∧ wr.cell? ⟨w.heap.size, 1, none⟩ = some (.int .i64 m.size) ∧ wr.cell? ⟨w.heap.size, 2, none⟩ = some (.string m.first) ∧ wr.cell? ⟨w.heap.size, 3, none⟩ = some (.string m.last) := by
        have := hblk.out
        refine ⟨?_, ?_, ?_, ?_⟩ <;> simp [World.cell?, this]
      obtain ⟨d0, d1, d2, d3⟩ := hcells
      have hlt : w.heap.size < wr.heap.size := by
        rcases Nat.lt_or_ge w.heap.size wr.heap.size with h | h
        · exact h
        · have := hblk.out; rw [Array.getElem?_eq_none h] at this; cases this
      -- which way
      have ways : (k < l.length ∧ ∃ b off x, A = some ⟨b, off, none⟩ ∧ Hid (l[k]? = some x) ∧ wr.cell? ⟨b, off + k * 4, none⟩ = some (.int .i64 x.file) ∧ wr.cell? ⟨b, off + k * 4 + 2, none⟩ = some (.string x.first) ∧
          ((((n : Int) == 0) = true ∧ x.file < m.file ∧ Hid ((l.take (k + 1)).all (ahead n m) = true)) ∨ (((n : Int) == 0) = true ∧ ¬ x.file < m.file ∧ Hid (l.takeWhile (ahead n m) = l.take k ∧ l.dropWhile (ahead n m) = l.drop k)) ∨
           (0 < n ∧ Op.bytesLess x.first.toList m.first.toList = true ∧ Hid ((l.take (k + 1)).all (ahead n m) = true)) ∨ (0 < n ∧ Op.bytesLess x.first.toList m.first.toList = false ∧ Hid (l.takeWhile (ahead n m) = l.take k ∧ l.dropWhile (ahead n m) = l.drop k)))) ∨
        (k = l.length ∧ Hid (l.takeWhile (ahead n m) = l.take k ∧ l.dropWhile (ahead n m) = l.drop k)) := by
        by_cases hkl : k < l.length
        · obtain ⟨b, off, x, hA, _, hx, c0, c1, c2, c3⟩ := atMeta HV.out hb hkl
          refine .inl ⟨hkl, b, off, x, hA, by show _ = _; rw [List.getElem?_eq_getElem hkl, hx.out], c0, c2, ?_⟩
          have hstop : ahead n m x = false → l.takeWhile (ahead n m) = l.take k ∧ l.dropWhile (ahead n m) = l.drop k := fun h => takeWhile_stop l k hall.out (fun _ => by rw [hx.out]; exact h) hk
          have hgo : ahead n m x = true → (l.take (k + 1)).all (ahead n m) = true := fun h => all_next hkl hall.out (by rw [hx.out]; exact h)
          rcases Nat.eq_zero_or_pos n with h0 | h0
          · have ha : ahead n m x = decide (x.file < m.file) := by simp [ahead, h0]
            by_cases hlt : x.file < m.file
            · exact .inl ⟨by simp [h0], hlt, hgo (by rw [ha]; simpa using hlt)⟩
            · exact .inr (.inl ⟨by simp [h0], hlt, hstop (by rw [ha]; simpa using hlt)⟩)
          · have ha : ahead n m x = Op.bytesLess x.first.toList m.first.toList := by unfold ahead; rw [if_neg (by omega)]; rfl
            rcases hq : Op.bytesLess x.first.toList m.first.toList with _ | _
            · exact .inr (.inr (.inr ⟨h0, rfl, hstop (by rw [ha, hq])⟩))
            · exact .inr (.inr (.inl ⟨h0, rfl, hgo (by rw [ha, hq])⟩))
        · exact .inr ⟨by omega, takeWhile_stop l k hall.out (fun h => absurd h hkl) hk⟩
      clear hall
      rcases ways with ⟨hkl, b, off, x, rfl, _, c0, c2, ⟨hn0, hlt', hnext⟩ | ⟨hn0, hlt', hst⟩ | ⟨hpos, hlt', hnext⟩ | ⟨hpos, hlt', hst⟩⟩ | ⟨rfl, hst⟩
      · have hkl' : (k : Int) < l.length := by omega
        have h0k : (0 : Int) ≤ k := by omega
        go_wp2_with fail
        go_quiet (fail)
        go_wp2_with fail
        go_roundw
        case rel => exact ⟨k + 1, by omega, by go_num, hnext, hblk, below_drewN hb _⟩
        case measure => simp [intOf]; omega
      · have hkl' : (k : Int) < l.length := by omega
        have h0k : (0 : Int) ≤ k := by omega
        have hdl : decide (x.file < m.file) = false := by simp; omega
        have hp : decide (0 < (n : Int)) = false := by simp at hn0; simp; omega
        have hp' : decide (0 < n) = false := by simp at hn0; simp; omega
        go_wp2_with fail
        go_quiet (fail)
        go_wp2_with fail
        go_meet
        case rel => exact ⟨k, by omega, rfl, hst, hblk, below_drewN hb _⟩
      · have hkl' : (k : Int) < l.length := by omega
        have h0k : (0 : Int) ≤ k := by omega
        have hn0 : ((n : Int) == 0) = false := by simp; omega
        have hp : (n : Int) > 0 := by omega
        go_wp2_with fail
        go_quiet (fail)
        go_wp2_with fail
        go_roundw
        case rel => exact ⟨k + 1, by omega, by go_num, hnext, hblk, below_drewN hb _⟩
        case measure => simp [intOf]; omega
      · have hkl' : (k : Int) < l.length := by omega
        have h0k : (0 : Int) ≤ k := by omega
        have hn0 : ((n : Int) == 0) = false := by simp; omega
        have hp : (n : Int) > 0 := by omega
        go_wp2_with fail
        go_quiet (fail)
        go_wp2_with fail
        go_meet
        case rel => exact ⟨k, by omega, rfl, hst, hblk, below_drewN hb _⟩
      · have hkl' : decide ((l.length : Int) < l.length) = false := by simp
        go_wp2_with fail
        go_quiet (fail)
        go_wp2_with fail
        go_meet
        case rel => exact ⟨l.length, by omega, rfl, hst, hblk, below_drewN hb _⟩

  case rest =>
    obtain ⟨k, hk, rfl, hst, hblk, hb⟩ := hcut
    have hlt : w.heap.size < wc.heap.size := by
      rcases Nat.lt_or_ge w.heap.size wc.heap.size with h | h
      · exact h
      · have := hblk.out; rw [Array.getElem?_eq_none h] at this; cases this
    have KB : ∀ W : World, Below wc.heap.size wc W → W.heap[w.heap.size]? = some (.cells #[.int .i64 m.file, .int .i64 m.size, .string m.first, .string m.last] 56 (0, 0)) := fun W h => (h.block _ hlt).trans hblk.out
    have d0 := KB wc (Below.refl _ _)
    have hc0 : wc.cell? ⟨w.heap.size, 0, none⟩ = some (.int .i64 m.file) := by simp [World.cell?, d0]
    have hc1 : wc.cell? ⟨w.heap.size, 1, none⟩ = some (.int .i64 m.size) := by simp [World.cell?, d0]
    have hc2 : wc.cell? ⟨w.heap.size, 2, none⟩ = some (.string m.first) := by simp [World.cell?, d0]
    have hc3 : wc.cell? ⟨w.heap.size, 3, none⟩ = some (.string m.last) := by simp [World.cell?, d0]
    clear d0
    replace KB := Lib.hid KB
    have hpre : RdT wc 4 metaC (.slice A k c) (l.take k) := by
      have := RdT.cut (f := metaC) (HV.out.below hb) metaC_len 0 k (by omega) hk
      simpa [addz] using this
    have hsuf : RdT wc 4 metaC (.slice (if c = k then A else A.map (·.add (k * 4))) (l.length - k) (c - k)) (l.drop k) := by
      have := RdT.cut (f := metaC) (HV.out.below hb) metaC_len k l.length hk (by omega)
      rwa [List.take_of_length_le (by simp)] at this
    have hk0 : (0 : Int) ≤ (k : Int) := by omega
    have hkc : (k : Int) ≤ (c : Int) := by omega
    have hkl : (k : Int) ≤ (l.length : Int) := by omega
    have hlk : (l.take k).length = k := by simp; omega
    have hld : (l.drop k).length = l.length - k := by simp
    have H1 : ∀ (L : List MetaD), ∀ u ∈ L.flatMap metaC, u.oneCell' = true := by
      intro L u hu
      obtain ⟨x, _, hx⟩ := List.mem_flatMap.1 hu
      exact metaC_one x u hx
    have B1 : (0 + (l.take k).length) * 48 ≤ 140737488355328 := by omega
    have B2 : (0 + (l.take k).length + 1) * 48 ≤ 140737488355328 := by omega
    have B3 : (0 + (l.take k).length + 1 + (l.drop k).length) * 48 ≤ 140737488355328 := by omega
    replace H1 := Lib.hid H1
    replace hlk := Lib.hid hlk
    replace hld := Lib.hid hld
    replace hpre := Lib.hid hpre
    replace hb := Lib.hid hb
    by_cases hck : c = k
    · rw [if_pos hck] at hsuf
      subst hck
      rw [Nat.sub_self] at hsuf
      replace hsuf := Lib.hid hsuf
      go_wp2_with fail
      go_region_held3 (fun w' => w'.cell? ⟨w.heap.size, 0, none⟩ = some (.int .i64 m.file) ∧ w'.cell? ⟨w.heap.size, 1, none⟩ = some (.int .i64 m.size) ∧ w'.cell? ⟨w.heap.size, 2, none⟩ = some (.string m.first) ∧ w'.cell? ⟨w.heap.size, 3, none⟩ = some (.string m.last))
        (first | go_keep | (have eb := KB.out _ hb1; refine ⟨?_, ?_, ?_, ?_⟩ <;> simp [World.cell?, eb]; done) | (have eb := KB.out _ hb2; refine ⟨?_, ?_, ?_, ?_⟩ <;> simp [World.cell?, eb]; done) | (have eb := KB.out _ hb3; refine ⟨?_, ?_, ?_, ?_⟩ <;> simp [World.cell?, eb]; done))
        (first
          | (first | refine step_app et_meta (.tmp 46) (.tmp 48) rfl rfl hown1 rfl rfl (src_blk (sz := 4) (cs := metaC m) (e := 56) (fr := (0, 0)) Try.underlying25 ?_ rfl (metaC_one _)) B2 ?_ ?_ | refine step_app et_meta (.tmp 46) (.tmp 48) rfl rfl (hown1.alloc _) rfl rfl (src_blk (sz := 4) (cs := metaC m) (e := 56) (fr := (0, 0)) Try.underlying25 ?_ rfl (metaC_one _)) B2 ?_ ?_
             (first | exact new_at rfl | exact (hg1.block _ (by simp <;> omega) (by simp [Value.ownBlock])).trans (new_at (by simp)) | exact (hg1.block _ (by simp <;> omega) (by simp [Value.ownBlock])).trans (new_old (new_at rfl)))
             (first | exact hb1.size | exact Nat.le_trans hb1.size (by simp))
             intro v2 w2 hown2 hg2 hat2
             first | have hb2 := grow_below hg2 hb1 (Nat.le_refl _) (fun k hk => (hown1.lt k hk).1) | have hb2 := grow_below hg2 (hb1.alloc hb1.size _) (Nat.le_refl _) (fun k hk => (hown1.lt k hk).1))
          | (refine step_app et_meta (.tmp 42) (.tmp 45) rfl rfl (own0 (base := wc.heap.size) ?_ ?_) rfl rfl (Rd.src (hpre.out.over ?_) (H1.out _) Try.underlying25) B1 ?_ ?_
             first | exact new_at rfl | exact new_old (new_at rfl) | exact new_at (by simp)
             first | exact Nat.le_refl _ | simp
             (intro b hb; first | exact Below.heap_alloc _ _ _ hb | exact (Below.heap_alloc _ _ _ (by simp; omega)).trans (Below.heap_alloc _ _ _ hb))
             (simp; try omega)
             intro v1 w1 hown1 hg1 hat1
             first | have hb1 := grow_below hg1 ((Below.refl wc.heap.size wc).alloc (Nat.le_refl _) _).drew (Nat.le_refl _) (by intro k hk; simp [Value.ownBlock] at hk; omega) | have hb1 := grow_below hg1 (((Below.refl wc.heap.size wc).alloc (Nat.le_refl _) _).alloc (by simp) _).drew (Nat.le_refl _) (by intro k hk; simp [Value.ownBlock] at hk; omega))
          | (refine step_app et_meta (.tmp 49) (.tmp 52) rfl rfl hown2 rfl rfl (src_cast (Rd.src (hsuf.out.below hb2) (H1.out _) Try.underlying25) ?_) B3 ?_ ?_
             first | rfl | (show Value.slice _ _ _ = Value.slice _ _ _; congr 1 <;> omega)
             first | exact hb2.size
             intro v3 w3 hown3 hg3 hat3
             have hb3 := grow_below hg3 hb2 (Nat.le_refl _) (fun k hk => (hown2.lt k hk).1)))
      all_goals
        go_wp2_with fail
        go_ret
        refine ⟨_, rfl, own_below (own_cast hown3 ?_ ?_) (Below.refl _ _) (Nat.le_of_lt hlt), hb.out.trans (hb3.mono (Nat.le_of_lt hlt))⟩
        · rw [HP.out, hst.out.1, hst.out.2]; simp; omega
        · rw [HP.out, hst.out.1, hst.out.2]; simp [List.flatMap_cons]
    · rw [if_neg hck] at hsuf
      replace hsuf := Lib.hid hsuf
      go_wp2_with fail
      go_region_held3 (fun w' => w'.cell? ⟨w.heap.size, 0, none⟩ = some (.int .i64 m.file) ∧ w'.cell? ⟨w.heap.size, 1, none⟩ = some (.int .i64 m.size) ∧ w'.cell? ⟨w.heap.size, 2, none⟩ = some (.string m.first) ∧ w'.cell? ⟨w.heap.size, 3, none⟩ = some (.string m.last))
        (first | go_keep | (have eb := KB.out _ hb1; refine ⟨?_, ?_, ?_, ?_⟩ <;> simp [World.cell?, eb]; done) | (have eb := KB.out _ hb2; refine ⟨?_, ?_, ?_, ?_⟩ <;> simp [World.cell?, eb]; done) | (have eb := KB.out _ hb3; refine ⟨?_, ?_, ?_, ?_⟩ <;> simp [World.cell?, eb]; done))
        (first
          | (first | refine step_app et_meta (.tmp 46) (.tmp 48) rfl rfl hown1 rfl rfl (src_blk (sz := 4) (cs := metaC m) (e := 56) (fr := (0, 0)) Try.underlying25 ?_ rfl (metaC_one _)) B2 ?_ ?_ | refine step_app et_meta (.tmp 46) (.tmp 48) rfl rfl (hown1.alloc _) rfl rfl (src_blk (sz := 4) (cs := metaC m) (e := 56) (fr := (0, 0)) Try.underlying25 ?_ rfl (metaC_one _)) B2 ?_ ?_
             (first | exact new_at rfl | exact (hg1.block _ (by simp <;> omega) (by simp [Value.ownBlock])).trans (new_at (by simp)) | exact (hg1.block _ (by simp <;> omega) (by simp [Value.ownBlock])).trans (new_old (new_at rfl)))
             (first | exact hb1.size | exact Nat.le_trans hb1.size (by simp))
             intro v2 w2 hown2 hg2 hat2
             first | have hb2 := grow_below hg2 hb1 (Nat.le_refl _) (fun k hk => (hown1.lt k hk).1) | have hb2 := grow_below hg2 (hb1.alloc hb1.size _) (Nat.le_refl _) (fun k hk => (hown1.lt k hk).1))
          | (refine step_app et_meta (.tmp 42) (.tmp 45) rfl rfl (own0 (base := wc.heap.size) ?_ ?_) rfl rfl (Rd.src (hpre.out.over ?_) (H1.out _) Try.underlying25) B1 ?_ ?_
             first | exact new_at rfl | exact new_old (new_at rfl) | exact new_at (by simp)
             first | exact Nat.le_refl _ | simp
             (intro b hb; first | exact Below.heap_alloc _ _ _ hb | exact (Below.heap_alloc _ _ _ (by simp; omega)).trans (Below.heap_alloc _ _ _ hb))
             (simp; try omega)
             intro v1 w1 hown1 hg1 hat1
             first | have hb1 := grow_below hg1 ((Below.refl wc.heap.size wc).alloc (Nat.le_refl _) _).drew (Nat.le_refl _) (by intro k hk; simp [Value.ownBlock] at hk; omega) | have hb1 := grow_below hg1 (((Below.refl wc.heap.size wc).alloc (Nat.le_refl _) _).alloc (by simp) _).drew (Nat.le_refl _) (by intro k hk; simp [Value.ownBlock] at hk; omega))
          | (refine step_app et_meta (.tmp 49) (.tmp 52) rfl rfl hown2 rfl rfl (src_cast (Rd.src (hsuf.out.below hb2) (H1.out _) Try.underlying25) ?_) B3 ?_ ?_
             first | rfl | (show Value.slice _ _ _ = Value.slice _ _ _; congr 1 <;> omega)
             first | exact hb2.size
             intro v3 w3 hown3 hg3 hat3
             have hb3 := grow_below hg3 hb2 (Nat.le_refl _) (fun k hk => (hown2.lt k hk).1)))
      all_goals
        go_wp2_with fail
        go_ret
        refine ⟨_, rfl, own_below (own_cast hown3 ?_ ?_) (Below.refl _ _) (Nat.le_of_lt hlt), hb.out.trans (hb3.mono (Nat.le_of_lt hlt))⟩
        · rw [HP.out, hst.out.1, hst.out.2]; simp; omega
        · rw [HP.out, hst.out.1, hst.out.2]; simp [List.flatMap_cons]
end Go.Proofs.Ytheanmfdfoefoaa
