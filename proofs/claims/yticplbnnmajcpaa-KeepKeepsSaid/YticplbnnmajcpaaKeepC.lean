/- keep.one: what is kept of a key's versions. -/
import Derived.Test.YticplbnnmajcpaaKeepB
import Derived.Shelf.Slices.SearchI
import Derived.Ground.Names2Prog
namespace Go.Proofs.Yticplbnnmajcpaa
open Go Go.RowKit

shelf_lay Lays2.n25 Nm2 25 at Try as Try.laysSearch
def intC (a : Int) : List Value := [.int .i64 a]
theorem intC_len (a : Int) : (intC a).length = 1 := rfl
theorem ints_at {w : World} {v : Value} {zs : List Int} (h : RdT w 1 intC v zs) (hne : zs ≠ []) : ∃ b off c, v = .slice (some ⟨b, off, none⟩) zs.length c ∧ b < w.heap.size ∧ zs.length ≤ c ∧ c ≤ 9223372036854775807 ∧ ∀ j, j < zs.length → w.cell? ⟨b, off + j, none⟩ = some (.int .i64 (zs.getD j 0)) := by
  have hl : 0 < zs.length := by cases zs <;> simp_all
  obtain ⟨b, off, c, e, hb, hc, hm, _⟩ := h.at intC_len (by omega) hl
  refine ⟨b, off, c, e, hb, hc, hm, fun j hj => ?_⟩
  obtain ⟨b', off', c', e', _, _, _, hcell⟩ := h.at intC_len (by omega) hj
  rw [e] at e'
  injection e' with e1
  injection e1 with e1
  injection e1 with e1 e2
  subst e1 e2
  have := hcell 0 _ rfl
  simpa [List.getD, hj] using this
/-- Somebody looks from a number on, but below another. -/
def hitB (zs : List Int) (x top : Int) : Bool := zs.any fun a => decide (x ≤ a) && decide (a < top)
theorem hit_eq {x top : Int} : ∀ {zs : List Int}, zs.Pairwise (· ≤ ·) → hitB zs x top = (decide (zs.countP (fun a => decide (a < x)) < zs.length) && decide (zs.getD (zs.countP (fun a => decide (a < x))) 0 < top)) := by
  intro zs
  induction zs with
  | nil => intro _; rfl
  | cons a r ih =>
    intro hs
    have hp := List.pairwise_cons.1 hs
    by_cases ha : a < x
    · have h1 := ih hp.2
      unfold hitB at *
      rw [List.any_cons, List.countP_cons_of_pos (by simpa using ha), h1]
      have : decide (x ≤ a) = false := by simp; omega
      simp [this]
    · have hz : r.countP (fun a => decide (a < x)) = 0 := by
        rw [List.countP_eq_zero]
        intro b hb
        have := hp.1 b hb
        simp; omega
      unfold hitB
      rw [List.countP_cons_of_neg (by simpa using ha), hz]
      simp only [List.any_cons, List.length_cons, List.getD_cons_zero]
      have h1 : decide (x ≤ a) = true := by simp; omega
      rw [h1, Bool.true_and]
      by_cases ht : a < top
      · simp [ht]
      · have : r.any (fun a => decide (x ≤ a) && decide (a < top)) = false := by
          rw [List.any_eq_false]
          intro b hb
          have := hp.1 b hb
          simp; omega
        simp [this]
def seenT (zs : List Int) : Int → List CellD → List CellD
  | _, [] => []
  | top, c :: l => (if hitB zs c.seq top then [c] else []) ++ seenT zs c.seq l
/-- The program's looks see what the document's do. -/
theorem seenT_seenG {zs looks : List Int} (hz : ∀ a, a ∈ zs ↔ a = maxSeq ∨ ∃ b ∈ looks, a = min b maxSeq) : ∀ {l : List CellD} {p : Option CellD} {top : Int}, (∀ c ∈ l, c.seq ≤ maxSeq) → (match p with | none => top = maxSeq + 1 | some x => top = x.seq ∧ x.seq ≤ maxSeq) → seenT zs top l = seenG looks p l := by
  intro l
  induction l with
  | nil => intro p top _ _; rfl
  | cons c l ih =>
    intro p top hm hp
    have hc := hm c (by simp)
    have hh : hitB zs c.seq top = seenP looks p c := by
      unfold hitB seenP
      rw [Bool.eq_iff_iff, List.any_eq_true, List.any_eq_true]
      constructor
      · rintro ⟨a, ha, hb⟩
        simp only [Bool.and_eq_true, decide_eq_true_eq] at hb
        rcases (hz a).1 ha with e | ⟨b, hb1, e⟩
        · refine ⟨maxSeq, by simp, ?_⟩
          cases p with
          | none => simp; omega
          | some x => simp only at hp; simp only [Bool.and_eq_true, decide_eq_true_eq]; omega
        · by_cases hbm : b ≤ maxSeq
          · refine ⟨b, by simp [hb1], ?_⟩
            have : a = b := by omega
            subst this
            cases p with
            | none => simpa using hb.1
            | some x => simp only at hp; simp only [Bool.and_eq_true, decide_eq_true_eq]; omega
          · refine ⟨maxSeq, by simp, ?_⟩
            cases p with
            | none => simp; omega
            | some x => simp only at hp; simp only [Bool.and_eq_true, decide_eq_true_eq]; omega
      · rintro ⟨a, ha, hb⟩
        rcases List.mem_append.1 ha with h | h
        · refine ⟨min a maxSeq, (hz _).2 (.inr ⟨a, h, rfl⟩), ?_⟩
          cases p with
          | none => simp only at hp; simp at hb ⊢; omega
          | some x => simp only at hp; simp only [Bool.and_eq_true, decide_eq_true_eq] at hb ⊢; omega
        · obtain rfl : a = maxSeq := by simpa using h
          refine ⟨maxSeq, (hz _).2 (.inl rfl), ?_⟩
          cases p with
          | none => simp only at hp; simp; omega
          | some x => simp only at hp; simp only [Bool.and_eq_true, decide_eq_true_eq] at hb ⊢; omega
    simp only [seenT, seenG, hh]
    rw [ih (p := some c) (fun x hx => hm x (by simp [hx])) ⟨rfl, hc⟩]
/-! ### the last ones go -/
theorem trim_pop {s : List CellD} (hne : s ≠ []) (hk : (s.getLast hne).kind = 0) : trimB true s = trimB true s.dropLast := by
  unfold trimB
  simp only [if_true]
  conv => lhs; rw [← List.dropLast_concat_getLast hne]
  rw [List.reverse_append]
  simp [hk]
theorem trim_stay {s : List CellD} (hne : s ≠ []) (hk : (s.getLast hne).kind ≠ 0) : trimB true s = s := by
  unfold trimB
  simp only [if_true]
  conv => lhs; rw [← List.dropLast_concat_getLast hne]
  rw [List.reverse_append]
  have : ((s.getLast hne).kind == 0) = false := by simpa using hk
  simp only [List.reverse_cons, List.reverse_nil, List.nil_append, List.singleton_append, List.dropWhile_cons, this]
  rw [if_neg (by simp), List.reverse_cons, List.reverse_reverse]
  exact List.dropLast_concat_getLast hne
theorem own_pop {w : World} {base : Nat} {e : TypeId} {sz n c : Nat} {A : Option Addr} {xs : List Value} (h : w.ownsRow base e sz (.slice A n c) n xs) (hn : 0 < n) : w.ownsRow base e sz (.slice A (n - 1) c) (n - 1) (xs.take ((n - 1) * sz)) := by
  obtain ⟨h1, h2⟩ := h
  refine ⟨by rw [List.length_take, h1]; exact Nat.min_eq_left (Nat.mul_le_mul_right _ (by omega)), ?_⟩
  rcases h2 with ⟨h2, h3⟩ | ⟨g, cap, cur, hv, hg, hh, hnc, hcm, hsz, htk⟩
  · omega
  · injection hv with e1 _ e2
    subst e1 e2
    refine .inr ⟨g, c, cur, rfl, hg, hh, by omega, hcm, hsz, ?_⟩
    rw [← htk, List.take_take, Nat.min_eq_left (Nat.mul_le_mul_right _ (by omega))]
theorem flat_dropLast (s : List CellD) : (s.flatMap cellC).take ((s.length - 1) * 4) = s.dropLast.flatMap cellC := by
  rcases List.eq_nil_or_concat s with rfl | ⟨r, x, rfl⟩
  · rfl
  · simp only [List.concat_eq_append, List.length_append, List.length_singleton, Nat.add_sub_cancel, List.dropLast_concat, List.flatMap_append]
    rw [List.take_append_of_le_length (by rw [flatMap_len cellC_len]; exact Nat.le_refl _)]
    rw [List.take_of_length_le (by rw [flatMap_len cellC_len]; exact Nat.le_refl _)]
def OnePost (w : World) (r : List CellD) (e : Ending) (w' : World) : Prop := ∃ v', e = .returned v' ∧ w'.ownsRow w.heap.size 35 4 v' r.length (r.flatMap cellC) ∧ Below w.heap.size w w'
def keepG (zs : List Int) (bottom : Bool) (l : List CellD) : List CellD := trimB bottom (seenT zs (maxSeq + 1) l)
set_option maxRecDepth 100000 in
set_option maxHeartbeats 2000000 in
theorem one_calls (l : List CellD) (zs : List Int) (bottom : Bool) (v vz : Value) (w : World) (hv : RdT w 4 cellC v l) (hz : RdT w 1 intC vz zs) (hne : zs ≠ []) (hs : zs.Pairwise (· ≤ ·)) (hl : l.length ≤ 1000000) (hzl : zs.length ≤ 1000000) :
    Calls Try.prog 31 #[v, vz, .bool bottom] w (OnePost w (keepG zs bottom l)) := by
  obtain ⟨R, hR⟩ : ∃ R, keepG zs bottom l = R := ⟨_, rfl⟩
  rw [hR]
  replace hR := Lib.hid hR
  have HV := Lib.hid hv
  obtain ⟨A, c, rfl, hnc, hcm⟩ := hv.len
  obtain ⟨bz, oz, cz, rfl, hbz, hzc, hzm, hcells⟩ := ints_at hz hne
  have KS : ∀ (x : Int) W, Below w.heap.size w W → Calls Try.prog 56 #[.slice (some ⟨bz, oz, none⟩) zs.length cz, .int .i64 x] W fun e w' => e = .returned (.tuple #[.int .i64 ((zs.countP (fun a => decide (a < x)) : Nat) : Int), .bool (zs.contains x)]) ∧ ∃ q, w' = W.drewN q := fun x W hW => by
    have := Any.slices_BinarySearch_int Try.laysSearch bz oz zs.length cz zs x W (Nat.le_refl _) (by omega) (fun j hj => (below_at hW hbz _).trans (hcells j hj)) (by rw [List.take_length]; exact hs)
    rw [List.take_length] at this
    exact this
  have HZ := Lib.hid hcells
  have HS := Lib.hid (fun x top => hit_eq (x := x) (top := top) hs)
  replace KS := Lib.hid KS
  clear hv hz hne hs hcells
  go_enter Try.func31, Try.ntmps31
  go_wp2_with fail
  go_loopw [7, 8, 15] (fun ov tv iv wr => ∃ (k : Nat) (top : Int) (out : List CellD), k ≤ l.length ∧ out.length ≤ k ∧ iv = .int .i64 (k : Int) ∧ tv = .int .i64 top ∧ wr.ownsRow w.heap.size 35 4 ov out.length (out.flatMap cellC) ∧ Hid (seenT zs (maxSeq + 1) l = out ++ seenT zs top (l.drop k)) ∧ Hid (Below w.heap.size w wr))
    (fun _ _ iv _ => l.length - (intOf iv).toNat)
  case atStart => exact ⟨0, maxSeq + 1, [], Nat.zero_le _, Nat.le_refl _, rfl, rfl, World.ownsRow_nil _ _ _ _, rfl, Below.refl _ _⟩
  case round =>
    obtain ⟨k, top, out, hk, hol, rfl, rfl, hown, hsn, hb⟩ := hrel
    have hsz := hb.out.size
    by_cases hkl : k < l.length
    · have hkl' : (k : Int) < l.length := by omega
      have h0 : (0 : Int) ≤ k := by omega
      obtain ⟨b, off, x, hA, hblt, hx, c0, c1, q2, c3⟩ := atCell HV.out hb.out hkl
      subst hA
      have hstep : seenT zs (maxSeq + 1) l = (out ++ if hitB zs x.seq top then [x] else []) ++ seenT zs x.seq (l.drop (k + 1)) := by
        rw [hsn.out, List.drop_eq_getElem_cons hkl, hx.out, List.append_assoc]; rfl
      have hh := HS.out x.seq top
      have KSx := Lib.hid (KS.out x.seq)
      have hi0 : zs.countP (fun a => decide (a < x.seq)) ≤ zs.length := List.countP_le_length
      have hcz := fun h => HZ.out (zs.countP (fun a => decide (a < x.seq))) h
      generalize zs.countP (fun a => decide (a < x.seq)) = i0 at *
      generalize zs.contains x.seq = bc at *
      generalize zs.getD i0 0 = z0 at *
      obtain ⟨b1, hb1⟩ : ∃ b1, decide (i0 < zs.length) = b1 := ⟨_, rfl⟩
      obtain ⟨b2, hb2⟩ : ∃ b2, decide (z0 < top) = b2 := ⟨_, rfl⟩
      rw [hb1, hb2] at hh
      rw [hh] at hstep
      replace hstep := Lib.hid hstep
      have hcz1 : b1 = true → w.cell? ⟨bz, oz + i0, none⟩ = some (.int .i64 z0) := fun h => hcz (by rw [h] at hb1; simpa using hb1)
      have hi1 : b1 = true → (i0 : Int) < zs.length := fun h => by rw [h] at hb1; have := of_decide_eq_true hb1; omega
      clear hcz hh hsn
      replace hcz1 := Lib.hid hcz1
      replace hx := Lib.hid hx
      replace hi1 := Lib.hid hi1
      have hi2 : (0 : Int) ≤ i0 := by omega
      have hownA : ∀ q : Nat, (wr.drewN q).ownsRow w.heap.size 35 4 u7 out.length (out.flatMap cellC) := fun _ => hown
      have hbA := Lib.hid ((hb.out.alloc hsz (Obj.cells #[.string x.key, .int .i64 x.seq, .int .i64 x.kind, .string x.val] 35)))
      rcases b1 with _ | _
      · have hb1n : ¬ i0 < zs.length := by simpa using hb1
        have hfin := hstep.out
        rw [show (if (false && b2) = true then [x] else ([] : List CellD)) = [] from rfl, List.append_nil] at hfin
        replace hfin := Lib.hid hfin
        clear hb1n hb2 hstep hcz1 hi1
        go_wp2_with (go_at_call 56; refine (KSx.out _ hbA.out).mono ?_; rintro e w1 ⟨rfl, q, rfl⟩)
        go_roundw
        case rel => exact ⟨k + 1, x.seq, out, by omega, by omega, by go_num, rfl, hown.alloc _, hfin, below_drewN hbA.out _⟩
        case measure => simp [intOf]; omega
      · have hz1 : ∀ o : Obj, (wr.alloc o).cell? ⟨bz, oz + i0, none⟩ = some (.int .i64 z0) := fun o => (below_at (hb.out.alloc hsz o) hbz _).trans (hcz1.out rfl)
        have hi3 := hi1.out rfl
        have hi4 : i0 < zs.length := by omega
        rcases b2 with _ | _
        · have hfin := hstep.out
          rw [show (if (true && false) = true then [x] else ([] : List CellD)) = [] from rfl, List.append_nil] at hfin
          replace hfin := Lib.hid hfin
          clear hb1 hstep hcz1 hi1
          go_wp2_with (go_at_call 56; refine (KSx.out _ hbA.out).mono ?_; rintro e w1 ⟨rfl, q, rfl⟩)
          go_roundw
          case rel => exact ⟨k + 1, x.seq, out, by omega, by omega, by go_num, rfl, hown.alloc _, hfin, below_drewN hbA.out _⟩
          case measure => simp [intOf]; omega
        · have hfin := hstep.out
          rw [show (if (true && true) = true then [x] else ([] : List CellD)) = [x] from rfl] at hfin
          replace hfin := Lib.hid hfin
          clear hb1 hstep hcz1 hi1
          have hownB : ∀ q : Nat, ((wr.alloc (Obj.cells #[.string x.key, .int .i64 x.seq, .int .i64 x.kind, .string x.val] 35)).drewN q).ownsRow w.heap.size 35 4 u7 out.length (out.flatMap cellC) := fun q => hown.alloc _
          replace hownB := Lib.hid hownB
          go_wp2_with (first
            | (go_at_call 56; refine (KSx.out _ hbA.out).mono ?_; rintro e w1 ⟨rfl, q, rfl⟩)
            | (at_builtin; refine wpL_app et_cell (.tmp 39) (.tmp 41) rfl rfl ((hownB.out _).alloc _) rfl rfl (src_blk (sz := 4) (cs := cellC x) (e := 35) (fr := (0, 0)) Try.underlying22 (new_at (by simp)) rfl (cellC_one _)) (by omega) (by simp; omega) ?_; intro v1 w1 hown1 hg1 hat1; have hbx : w1.heap[wr.heap.size]? = some (.cells #[.string x.key, .int .i64 x.seq, .int .i64 x.kind, .string x.val] 35 (0, 0)) := (hg1.block wr.heap.size (by simp; omega) (own_far hown (Nat.le_refl _))).trans (new_old (w := (wr.alloc (Obj.cells #[.string x.key, .int .i64 x.seq, .int .i64 x.kind, .string x.val] 35)).drewN q) (new_at (w := wr) rfl)); obtain ⟨m1, m2, m3, m4⟩ := cells4 hbx; replace hbx := Lib.hid hbx))
          go_roundw
          case rel => exact ⟨k + 1, x.seq, out ++ [x], by omega, by simp; omega, by go_num, rfl, own_cast hown1 (by simp) (by simp), hfin, below_app ((below_drewN hbA.out _).alloc (by simp; omega) _) hg1 ((hownB.out _).alloc _) (Nat.le_refl _) (by simp; omega)⟩
          case measure => simp [intOf]; omega
    · obtain rfl : k = l.length := by omega
      have hres : R = trimB bottom out := by
        rw [← hR.out]
        unfold keepG
        rw [hsn.out, List.drop_length]
        simp [seenT]
      replace hres := Lib.hid hres
      clear hR hsn
      have hown0 := Lib.hid hown
      clear hown
      go_wp2_with fail
      go_loopw [7] (fun ov wx => ∃ s : List CellD, wx = wr ∧ s.length ≤ l.length ∧ wr.ownsRow w.heap.size 35 4 ov s.length (s.flatMap cellC) ∧ Hid (R = trimB bottom s))
        (fun ov _ => match ov with | .slice _ n _ => n | _ => 0)
      case atStart => exact ⟨out, rfl, hol, hown0.out, hres⟩
      case round =>
        obtain ⟨s, rfl, hsl, hown, hr⟩ := hrel
        clear hown0 hres
        obtain ⟨A2, c2, rfl, hs1, hs2⟩ : ∃ A2 c2, u7 = .slice A2 s.length c2 ∧ s.length ≤ c2 ∧ c2 ≤ 9223372036854775807 := by
          obtain ⟨A2, c2, hov, h1, h2, _⟩ := Rd.of_own hown
          exact ⟨A2, c2, hov, h1, h2⟩
        rcases bottom with _ | _
        · obtain rfl : R = s := hr.out
          clear hr
          replace hown := Lib.hid hown
          go_wp2_with fail
          go_ret
          exact ⟨_, rfl, hown.out, hb.out⟩
        · by_cases hse : s = []
          · subst hse
            obtain rfl : R = [] := hr.out
            clear hr
            replace hown := Lib.hid hown
            go_wp2_with fail
            go_ret
            exact ⟨_, rfl, hown.out, hb.out⟩
          · have hs0 : 0 < s.length := by cases s <;> simp_all
            obtain ⟨b2, off2, y, hA2, hbt2, hy, e0, e1, e2, e3⟩ := atCell (Rd.of_own hown) (Below.refl _ _) (show s.length - 1 < s.length by omega)
            subst hA2
            have hlast : s.getLast hse = y := by rw [List.getLast_eq_getElem]; exact hy.out
            have hpop : y.kind = 0 → R = trimB true s.dropLast := fun h => by rw [hr.out]; exact trim_pop hse (by rw [hlast]; exact h)
            have hstay : y.kind ≠ 0 → R = s := fun h => by rw [hr.out]; exact trim_stay hse (by rw [hlast]; exact h)
            have hownp : wr.ownsRow w.heap.size 35 4 (.slice (some ⟨b2, off2, none⟩) (s.length - 1) c2) s.dropLast.length (s.dropLast.flatMap cellC) := own_cast (own_pop hown hs0) (by simp) (flat_dropLast s)
            have hdl : s.dropLast.length = s.length - 1 := by simp
            have hs0' : (0 : Int) < s.length := by omega
            have hs0'' : (s.length : Int) > 0 := by omega
            have hm1 : (0 : Int) ≤ (s.length : Int) - 1 := by omega
            have hm2 : ((s.length : Int) - 1).toNat = s.length - 1 := by omega
            have hm5 : (1 : Int) ≤ s.length := by omega
            have hm6 : (s.length : Int) - 1 ≤ (c2 : Int) := by omega
            clear hr hlast hse hy
            replace hpop := Lib.hid hpop
            replace hstay := Lib.hid hstay
            replace hown := Lib.hid hown
            replace hownp := Lib.hid hownp
            replace hdl := Lib.hid hdl
            obtain ⟨bk, hbk⟩ : ∃ bk, (y.kind == 0) = bk := ⟨_, rfl⟩
            rcases bk with _ | _
            · obtain rfl := hstay.out (by simpa using hbk)
              go_wp2_with fail
              go_ret
              exact ⟨_, rfl, hown.out, hb.out⟩
            · have hnx := hpop.out (by simpa using hbk)
              replace hnx := Lib.hid hnx
              go_wp2_with fail
              go_roundw
              case rel => exact ⟨s.dropLast, trivial, by have := hdl.out; omega, hownp.out, hnx⟩
              case measure => show s.length - 1 < s.length; omega
end Go.Proofs.Yticplbnnmajcpaa
