/- The document's Place: a cell among cells in their order. -/
import Derived.Test.YticplbnnmajcpaaKeepD
import Derived.Deep.CutBlock
namespace Go.Proofs.Yticplbnnmajcpaa
open Go Go.RowKit

def aheadC (c x : CellD) : Bool := lessV x c
def placeL (l : List CellD) (c : CellD) : List CellD := l.takeWhile (aheadC c) ++ c :: l.dropWhile (aheadC c)
theorem tw_stop {α : Type} {p : α → Bool} : ∀ {l : List α} {k : Nat}, (l.take k).all p = true → (∀ h : k < l.length, p l[k] = false) → k ≤ l.length → l.takeWhile p = l.take k ∧ l.dropWhile p = l.drop k := by
  intro l
  induction l with
  | nil => intro k _ _ hk; simp
  | cons x l ih =>
    intro k h1 h2 hk
    cases k with
    | zero =>
      have := h2 (by simp)
      simp only [List.getElem_cons_zero] at this
      simp [this]
    | succ k =>
      simp only [List.take_succ_cons, List.all_cons, Bool.and_eq_true] at h1
      obtain ⟨e1, e2⟩ := ih h1.2 (fun h => by have := h2 (by simpa using h); simpa using this) (by simpa using hk)
      simp [h1.1, e1, e2]
theorem all_next {α : Type} {p : α → Bool} {l : List α} {k : Nat} (hk : k < l.length) (h0 : (l.take k).all p = true) (h : p l[k] = true) : (l.take (k + 1)).all p = true := by
  rw [take_next hk, List.all_append, h0]; simp [h]
set_option maxRecDepth 100000 in
set_option maxHeartbeats 1000000 in
theorem Place_calls (l : List CellD) (m : CellD) (v : Value) (w : World) (hv : RdT w 4 cellC v l) (hl : l.length ≤ 1000000) :
    Calls Try.prog 27 #[v, .agg #[.string m.key, .int .i64 m.seq, .int .i64 m.kind, .string m.val]] w fun e w' => ∃ v', e = .returned v' ∧
      w'.ownsRow w.heap.size 35 4 v' (placeL l m).length ((placeL l m).flatMap cellC) ∧ Below w.heap.size w w' := by
  have HV := Lib.hid hv
  obtain ⟨A, c, rfl, hnc, hcm⟩ := hv.len
  have HP : Hid (placeL l m = l.takeWhile (aheadC m) ++ m :: l.dropWhile (aheadC m)) := rfl
  generalize placeL l m = r at *
  go_enter Try.func27, Try.ntmps27
  go_upto_block 0 with (fail)
  go_cut [5] (fun s7 wx => ∃ k : Nat, k ≤ l.length ∧ s7 = .int .i64 (k : Int) ∧ Hid (l.takeWhile (aheadC m) = l.take k ∧ l.dropWhile (aheadC m) = l.drop k) ∧ Hid (wx.heap[w.heap.size]? = some (.cells #[.string m.key, .int .i64 m.seq, .int .i64 m.kind, .string m.val] 35 (0, 0))) ∧ Below w.heap.size w wx)
  case first =>
    go_wp2_with fail
    go_loopw [5] (fun iv wr => ∃ k : Nat, k ≤ l.length ∧ iv = .int .i64 (k : Int) ∧ Hid ((l.take k).all (aheadC m) = true) ∧ Hid (wr.heap[w.heap.size]? = some (.cells #[.string m.key, .int .i64 m.seq, .int .i64 m.kind, .string m.val] 35 (0, 0))) ∧ Below w.heap.size w wr)
      (fun iv _ => l.length - (intOf iv).toNat)
    case atStart => exact ⟨0, Nat.zero_le _, rfl, by show _ = _; simp, heap_alloc_new w _, (Below.refl _ _).alloc (Nat.le_refl _) _⟩
    case round =>
      obtain ⟨k, hk, rfl, hall, hblk, hb⟩ := hrel
      have hsz := hb.size
      have hbl := lt_of_at hblk.out
      obtain ⟨wo, rfl⟩ : ∃ wo : World, wo = wr := ⟨_, rfl⟩
      by_cases hkl : k < l.length
      · have hkl' : (k : Int) < l.length := by omega
        have h0 : (0 : Int) ≤ k := by omega
        obtain ⟨b, off, x, hA, hblt, hx, c0, c1, c2, c3⟩ := atCell HV.out hb hkl
        subst hA
        obtain ⟨d0, d1, d2, d3⟩ := cells4 hblk.out
        have KB : ∀ W, InB wo W → W.cell? ⟨w.heap.size, 0, none⟩ = some (.string m.key) ∧ W.cell? ⟨w.heap.size, 1, none⟩ = some (.int .i64 m.seq) ∧ W.cell? ⟨w.heap.size, 2, none⟩ = some (.int .i64 m.kind) := fun W h => ⟨(below_at h.below hbl _).trans d0, (below_at h.below hbl _).trans d1, (below_at h.below hbl _).trans d2⟩
        have KX : ∀ W, InB wo W → W.cell? ⟨b, off + k * 4, none⟩ = some (.string x.key) ∧ W.cell? ⟨b, off + k * 4 + 1, none⟩ = some (.int .i64 x.seq) ∧ W.cell? ⟨b, off + k * 4 + 2, none⟩ = some (.int .i64 x.kind) := fun W h => ⟨(below_at h.below (by omega) _).trans c0, (below_at h.below (by omega) _).trans c1, (below_at h.below (by omega) _).trans c2⟩
        have KL := fun W => LessR_calls x m W
        have hyes : lessV x m = true → (l.take (k + 1)).all (aheadC m) = true := fun h => all_next hkl hall.out (by rw [hx.out]; exact h)
        have hno : lessV x m = false → l.takeWhile (aheadC m) = l.take k ∧ l.dropWhile (aheadC m) = l.drop k := fun h => tw_stop hall.out (fun _ => by rw [hx.out]; exact h) hk
        obtain ⟨bl, hbl2⟩ : ∃ bl, lessV x m = bl := ⟨_, rfl⟩
        rw [hbl2] at hyes hno KL
        clear hbl2 c0 c1 c2 c3 d0 d1 d2 d3
        replace KB := Lib.hid KB
        replace KX := Lib.hid KX
        replace KL := Lib.hid KL
        replace hyes := Lib.hid hyes
        replace hno := Lib.hid hno
        replace hx := Lib.hid hx
        rcases bl with _ | _
        all_goals
          go_wp2_with fail
          refine wp_region_inB (by kernel_rfl) (by kernel_rfl) ?_
          repeat (go_big_quiet_step ((first
            | (intro _; exact rfl)
            | (intro hW; go_at_call 25; exact InB.calls hW (KL.out _))
            | (intro hW; obtain ⟨k0, k1, k2⟩ := KB.out _ hW; go_simp; exact rfl)
            | (intro hW; obtain ⟨k0, k1, k2⟩ := KX.out _ hW; go_simp; exact rfl))))
          refine wpQuiet_nil ?_
          intro w1 hb1
          replace hb1 := InB.below hb1
          have hblk1 := (hb1.block _ hbl).trans hblk.out
          replace hblk1 := Lib.hid hblk1
          go_wp2_with fail
        · go_meet
          case rel => exact ⟨k, hk, rfl, hno.out trivial, hblk1, hb.trans (hb1.mono hsz)⟩
        · go_roundw
          case rel => exact ⟨k + 1, by omega, by go_num, hyes.out trivial, hblk1, hb.trans (hb1.mono hsz)⟩
          case measure => simp [intOf]; omega
      · obtain rfl : k = l.length := by omega
        have hst : Hid (l.takeWhile (aheadC m) = l.take l.length ∧ l.dropWhile (aheadC m) = l.drop l.length) := tw_stop hall.out (fun h => absurd h (by omega)) hk
        have hkl' : decide ((l.length : Int) < l.length) = false := by simp
        go_wp2_with fail
        refine wp_region_inB (by kernel_rfl) (by kernel_rfl) ?_
        repeat (go_big_quiet_step ((intro _; exact rfl)))
        refine wpQuiet_nil ?_
        intro w1 hb1
        replace hb1 := InB.below hb1
        have hblk1 := (hb1.block _ hbl).trans hblk.out
        replace hblk1 := Lib.hid hblk1
        go_wp2_with fail
        go_meet
        case rel => exact ⟨l.length, Nat.le_refl _, rfl, hst, hblk1, hb.trans (hb1.mono hsz)⟩
  case rest =>
    obtain ⟨k, hk, rfl, hst, hblk, hb⟩ := hcut
    have hlt : w.heap.size < wc.heap.size := by
      rcases Nat.lt_or_ge w.heap.size wc.heap.size with h | h
      · exact h
      · have := hblk.out; rw [Array.getElem?_eq_none h] at this; cases this
    have KB : ∀ W : World, Below wc.heap.size wc W → W.heap[w.heap.size]? = some (.cells #[.string m.key, .int .i64 m.seq, .int .i64 m.kind, .string m.val] 35 (0, 0)) := fun W h => (h.block _ hlt).trans hblk.out
    have d0 := KB wc (Below.refl _ _)
    have hc0 : wc.cell? ⟨w.heap.size, 0, none⟩ = some (.string m.key) := by simp [World.cell?, d0]
    have hc1 : wc.cell? ⟨w.heap.size, 1, none⟩ = some (.int .i64 m.seq) := by simp [World.cell?, d0]
    have hc2 : wc.cell? ⟨w.heap.size, 2, none⟩ = some (.int .i64 m.kind) := by simp [World.cell?, d0]
    have hc3 : wc.cell? ⟨w.heap.size, 3, none⟩ = some (.string m.val) := by simp [World.cell?, d0]
    clear d0
    replace KB := Lib.hid KB
    have hpre : RdT wc 4 cellC (.slice A k c) (l.take k) := by
      have := RdT.cut (f := cellC) (HV.out.below hb) cellC_len 0 k (by omega) hk
      simpa [addz] using this
    have hsuf : RdT wc 4 cellC (.slice (if c = k then A else A.map (·.add (k * 4))) (l.length - k) (c - k)) (l.drop k) := by
      have := RdT.cut (f := cellC) (HV.out.below hb) cellC_len k l.length hk (by omega)
      rwa [List.take_of_length_le (by simp)] at this
    have hk0 : (0 : Int) ≤ (k : Int) := by omega
    have hkc : (k : Int) ≤ (c : Int) := by omega
    have hkl : (k : Int) ≤ (l.length : Int) := by omega
    have hlk : (l.take k).length = k := by simp; omega
    have hld : (l.drop k).length = l.length - k := by simp
    have H1 : ∀ (L : List CellD), ∀ u ∈ L.flatMap cellC, u.oneCell' = true := by
      intro L u hu
      obtain ⟨x, _, hx⟩ := List.mem_flatMap.1 hu
      exact cellC_one x u hx
    have B1 : (0 + (l.take k).length) * 48 ≤ 140737488355328 := by omega
    have B2 : (0 + (l.take k).length + 1) * 48 ≤ 140737488355328 := by omega
    have B3 : (0 + (l.take k).length + 1 + (l.drop k).length) * 48 ≤ 140737488355328 := by omega
    replace H1 := Lib.hid H1
    replace hlk := Lib.hid hlk
    replace hld := Lib.hid hld
    replace hpre := Lib.hid hpre
    replace hb := Lib.hid hb
    by_cases hck : c = k
    · rw [if_pos hck] at hsuf
      subst hck
      rw [Nat.sub_self] at hsuf
      replace hsuf := Lib.hid hsuf
      go_wp2_with fail
      go_region_held3 (fun w' => w'.cell? ⟨w.heap.size, 0, none⟩ = some (.string m.key) ∧ w'.cell? ⟨w.heap.size, 1, none⟩ = some (.int .i64 m.seq) ∧ w'.cell? ⟨w.heap.size, 2, none⟩ = some (.int .i64 m.kind) ∧ w'.cell? ⟨w.heap.size, 3, none⟩ = some (.string m.val))
        (first | go_keep | (have eb := KB.out _ hb1; refine ⟨?_, ?_, ?_, ?_⟩ <;> simp [World.cell?, eb]; done) | (have eb := KB.out _ hb2; refine ⟨?_, ?_, ?_, ?_⟩ <;> simp [World.cell?, eb]; done) | (have eb := KB.out _ hb3; refine ⟨?_, ?_, ?_, ?_⟩ <;> simp [World.cell?, eb]; done))
        (first
          | (first | refine step_app et_cell (.tmp 26) (.tmp 28) rfl rfl hown1 rfl rfl (src_blk (sz := 4) (cs := cellC m) (e := 35) (fr := (0, 0)) Try.underlying22 ?_ rfl (cellC_one _)) B2 ?_ ?_ | refine step_app et_cell (.tmp 26) (.tmp 28) rfl rfl (hown1.alloc _) rfl rfl (src_blk (sz := 4) (cs := cellC m) (e := 35) (fr := (0, 0)) Try.underlying22 ?_ rfl (cellC_one _)) B2 ?_ ?_
             (first | exact new_at rfl | exact (hg1.block _ (by simp <;> omega) (by simp [Value.ownBlock])).trans (new_at (by simp)) | exact (hg1.block _ (by simp <;> omega) (by simp [Value.ownBlock])).trans (new_old (new_at rfl)))
             (first | exact hb1.size | exact Nat.le_trans hb1.size (by simp))
             intro v2 w2 hown2 hg2 hat2
             first | have hb2 := grow_below hg2 hb1 (Nat.le_refl _) (fun k hk => (hown1.lt k hk).1) | have hb2 := grow_below hg2 (hb1.alloc hb1.size _) (Nat.le_refl _) (fun k hk => (hown1.lt k hk).1))
          | (refine step_app et_cell (.tmp 22) (.tmp 25) rfl rfl (own0 (base := wc.heap.size) ?_ ?_) rfl rfl (Rd.src (hpre.out.over ?_) (H1.out _) Try.underlying22) B1 ?_ ?_
             first | exact new_at rfl | exact new_old (new_at rfl) | exact new_at (by simp)
             first | exact Nat.le_refl _ | simp
             (intro b hb; first | exact Below.heap_alloc _ _ _ hb | exact (Below.heap_alloc _ _ _ (by simp; omega)).trans (Below.heap_alloc _ _ _ hb))
             (simp; try omega)
             intro v1 w1 hown1 hg1 hat1
             first | have hb1 := grow_below hg1 ((Below.refl wc.heap.size wc).alloc (Nat.le_refl _) _).drew (Nat.le_refl _) (by intro k hk; simp [Value.ownBlock] at hk; omega) | have hb1 := grow_below hg1 (((Below.refl wc.heap.size wc).alloc (Nat.le_refl _) _).alloc (by simp) _).drew (Nat.le_refl _) (by intro k hk; simp [Value.ownBlock] at hk; omega))
          | (refine step_app et_cell (.tmp 29) (.tmp 32) rfl rfl hown2 rfl rfl (src_cast (Rd.src (hsuf.out.below hb2) (H1.out _) Try.underlying22) ?_) B3 ?_ ?_
             first | rfl | (show Value.slice _ _ _ = Value.slice _ _ _; congr 1 <;> omega)
             first | exact hb2.size
             intro v3 w3 hown3 hg3 hat3
             have hb3 := grow_below hg3 hb2 (Nat.le_refl _) (fun k hk => (hown2.lt k hk).1)))
      all_goals
        go_wp2_with fail
        go_ret
        refine ⟨_, rfl, own_below (own_cast hown3 ?_ ?_) (Below.refl _ _) (Nat.le_of_lt hlt), hb.out.trans (hb3.mono (Nat.le_of_lt hlt))⟩
        · rw [HP.out, hst.out.1, hst.out.2]; simp; omega
        · rw [HP.out, hst.out.1, hst.out.2]; simp [List.flatMap_cons]
    · rw [if_neg hck] at hsuf
      replace hsuf := Lib.hid hsuf
      go_wp2_with fail
      go_region_held3 (fun w' => w'.cell? ⟨w.heap.size, 0, none⟩ = some (.string m.key) ∧ w'.cell? ⟨w.heap.size, 1, none⟩ = some (.int .i64 m.seq) ∧ w'.cell? ⟨w.heap.size, 2, none⟩ = some (.int .i64 m.kind) ∧ w'.cell? ⟨w.heap.size, 3, none⟩ = some (.string m.val))
        (first | go_keep | (have eb := KB.out _ hb1; refine ⟨?_, ?_, ?_, ?_⟩ <;> simp [World.cell?, eb]; done) | (have eb := KB.out _ hb2; refine ⟨?_, ?_, ?_, ?_⟩ <;> simp [World.cell?, eb]; done) | (have eb := KB.out _ hb3; refine ⟨?_, ?_, ?_, ?_⟩ <;> simp [World.cell?, eb]; done))
        (first
          | (first | refine step_app et_cell (.tmp 26) (.tmp 28) rfl rfl hown1 rfl rfl (src_blk (sz := 4) (cs := cellC m) (e := 35) (fr := (0, 0)) Try.underlying22 ?_ rfl (cellC_one _)) B2 ?_ ?_ | refine step_app et_cell (.tmp 26) (.tmp 28) rfl rfl (hown1.alloc _) rfl rfl (src_blk (sz := 4) (cs := cellC m) (e := 35) (fr := (0, 0)) Try.underlying22 ?_ rfl (cellC_one _)) B2 ?_ ?_
             (first | exact new_at rfl | exact (hg1.block _ (by simp <;> omega) (by simp [Value.ownBlock])).trans (new_at (by simp)) | exact (hg1.block _ (by simp <;> omega) (by simp [Value.ownBlock])).trans (new_old (new_at rfl)))
             (first | exact hb1.size | exact Nat.le_trans hb1.size (by simp))
             intro v2 w2 hown2 hg2 hat2
             first | have hb2 := grow_below hg2 hb1 (Nat.le_refl _) (fun k hk => (hown1.lt k hk).1) | have hb2 := grow_below hg2 (hb1.alloc hb1.size _) (Nat.le_refl _) (fun k hk => (hown1.lt k hk).1))
          | (refine step_app et_cell (.tmp 22) (.tmp 25) rfl rfl (own0 (base := wc.heap.size) ?_ ?_) rfl rfl (Rd.src (hpre.out.over ?_) (H1.out _) Try.underlying22) B1 ?_ ?_
             first | exact new_at rfl | exact new_old (new_at rfl) | exact new_at (by simp)
             first | exact Nat.le_refl _ | simp
             (intro b hb; first | exact Below.heap_alloc _ _ _ hb | exact (Below.heap_alloc _ _ _ (by simp; omega)).trans (Below.heap_alloc _ _ _ hb))
             (simp; try omega)
             intro v1 w1 hown1 hg1 hat1
             first | have hb1 := grow_below hg1 ((Below.refl wc.heap.size wc).alloc (Nat.le_refl _) _).drew (Nat.le_refl _) (by intro k hk; simp [Value.ownBlock] at hk; omega) | have hb1 := grow_below hg1 (((Below.refl wc.heap.size wc).alloc (Nat.le_refl _) _).alloc (by simp) _).drew (Nat.le_refl _) (by intro k hk; simp [Value.ownBlock] at hk; omega))
          | (refine step_app et_cell (.tmp 29) (.tmp 32) rfl rfl hown2 rfl rfl (src_cast (Rd.src (hsuf.out.below hb2) (H1.out _) Try.underlying22) ?_) B3 ?_ ?_
             first | rfl | (show Value.slice _ _ _ = Value.slice _ _ _; congr 1 <;> omega)
             first | exact hb2.size
             intro v3 w3 hown3 hg3 hat3
             have hb3 := grow_below hg3 hb2 (Nat.le_refl _) (fun k hk => (hown2.lt k hk).1)))
      all_goals
        go_wp2_with fail
        go_ret
        refine ⟨_, rfl, own_below (own_cast hown3 ?_ ?_) (Below.refl _ _) (Nat.le_of_lt hlt), hb.out.trans (hb3.mono (Nat.le_of_lt hlt))⟩
        · rw [HP.out, hst.out.1, hst.out.2]; simp; omega
        · rw [HP.out, hst.out.1, hst.out.2]; simp [List.flatMap_cons]
end Go.Proofs.Yticplbnnmajcpaa
