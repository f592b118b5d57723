/- batch.Decode. -/
import Derived.Test.YtmgpfckkafcllaaInput
import Derived.Test.YtmgpfckkafcllaaBatch
namespace Go.Proofs.Ytmgpfckkafcllaa
open Go Go.RowKit

/-- One change off the front. -/
def takeOp (l : List UInt8) (bad : Bool) : OpD × List UInt8 × Bool :=
  let a := fixedS l bad 1
  let b := textS a.2.1 a.2.2 64
  if (a.1 : Int) = 1 then
    let c := textS b.2.1 b.2.2 1000
    (⟨1, ⟨b.1.toArray⟩, ⟨c.1.toArray⟩⟩, c.2.1, c.2.2)
  else (⟨a.1, ⟨b.1.toArray⟩, ⟨#[]⟩⟩, b.2.1, b.2.2)
/-- n changes off the front, as long as none is bad. -/
def decL : Nat → List UInt8 → Bool → List OpD → List UInt8 × Bool × List OpD
  | 0, l, bad, acc => (l, bad, acc)
  | n + 1, l, bad, acc => if bad then (l, bad, acc) else decL n (takeOp l bad).2.1 (takeOp l bad).2.2 (acc ++ [(takeOp l bad).1])
theorem decL_bad (k : Nat) (l : List UInt8) (acc : List OpD) : decL k l true acc = (l, true, acc) := by cases k <;> rfl
def decR (l : List UInt8) : List UInt8 × Bool × List OpD := decL (fixedS (fixedS l false 8).2.1 (fixedS l false 8).2.2 4).1 (fixedS (fixedS l false 8).2.1 (fixedS l false 8).2.2 4).2.1 (fixedS (fixedS l false 8).2.1 (fixedS l false 8).2.2 4).2.2 []
def decSeq (l : List UInt8) : Int := wrap64 ((fixedS l false 8).1 : Int)
def decOk (l : List UInt8) : Bool := !(decR l).2.1 && (decR l).1.isEmpty && checkB (decSeq l) (decR l).2.2 == 0
def decB (l : List UInt8) : Int × List OpD × Int := if decOk l then (decSeq l, (decR l).2.2, 0) else (0, [], 2)
def lenOf : Value → Nat | .slice _ n _ => n | _ => 0

/-- The input lies in block g and reads l; w0 is the world in which its bytes were handed in. -/
structure InSt (w0 w : World) (g : Nat) (v : Value) (bad : Bool) (l : List UInt8) : Prop where
  rd : RdB w0 v l
  at_ : inputAt w g v bad
  below : Below w0.heap.size w0 w
  lt : g < w.heap.size
theorem InSt.fixed {w0 w : World} {v : Value} {bad : Bool} {l : List UInt8} (h : InSt w0 w w0.heap.size v bad l) (s : Nat) (hs : s ≤ 8) :
    Calls Try.prog 30 #[.pointer (some ⟨w0.heap.size, 0, none⟩), .int .i64 (s : Int)] w fun e w' =>
      ∃ v', e = .returned (.int .u64 ((fixedS l bad s).1 : Int)) ∧ InSt w0 w' w0.heap.size v' (fixedS l bad s).2.2 (fixedS l bad s).2.1 ∧ w.grownBy w' (some w0.heap.size) ∧ w'.heap.size = w.heap.size := by
  refine (fixed_calls w0 w h.below w0.heap.size v bad l h.at_ h.rd s hs).mono ?_
  rintro e w' ⟨v', he, hv', hi, hg, hz⟩
  exact ⟨v', he, ⟨hv', hi, h.below.grown hg (Nat.le_of_lt h.lt) (by intro k hk; injection hk with hk; omega), by have := h.lt; omega⟩, hg, hz⟩
theorem InSt.text {w0 w : World} {v : Value} {bad : Bool} {l : List UInt8} (h : InSt w0 w w0.heap.size v bad l) (most : Nat) (hm : most < 4294967296) :
    Calls Try.prog 31 #[.pointer (some ⟨w0.heap.size, 0, none⟩), .int .i64 (most : Int)] w fun e w' =>
      ∃ v', e = .returned (.string ⟨(textS l bad most).1.toArray⟩) ∧ InSt w0 w' w0.heap.size v' (textS l bad most).2.2 (textS l bad most).2.1 ∧ w.grownBy w' (some w0.heap.size) ∧ w'.heap.size = w.heap.size := by
  refine (text_calls w0 w h.below w0.heap.size v bad l h.at_ h.rd most hm).mono ?_
  rintro e w' ⟨v', he, hv', hi, hg, hz⟩
  exact ⟨v', he, ⟨hv', hi, h.below.grown hg (Nat.le_of_lt h.lt) (by intro k hk; injection hk with hk; omega), by have := h.lt; omega⟩, hg, hz⟩

theorem InSt.grown {w0 w w' : World} {v : Value} {bad : Bool} {l : List UInt8} (h : InSt w0 w w0.heap.size v bad l) {row : Option Nat} (hg : w.grownBy w' row) (hr : ∀ k, row = some k → w0.heap.size < k) : InSt w0 w' w0.heap.size v bad l :=
  ⟨h.rd, by
    have h1 := h.at_
    unfold inputAt at *
    rw [hg.block _ h.lt (by intro e; have := hr _ e.symm; omega)]; exact h1, h.below.grown hg (Nat.le_of_lt h.lt) (fun k hk => Nat.le_of_lt (hr k hk)), Nat.lt_of_lt_of_le h.lt hg.size⟩
theorem InSt.alloc {w0 w : World} {v : Value} {bad : Bool} {l : List UInt8} (h : InSt w0 w w0.heap.size v bad l) (o : Obj) : InSt w0 (w.alloc o) w0.heap.size v bad l :=
  h.grown (World.grownBy_alloc w o none) (by simp)
theorem opC_one (o : OpD) : ∀ u ∈ opC o, u.oneCell' = true := by
  intro u hu
  simp only [opC, List.mem_cons, List.not_mem_nil, or_false] at hu
  rcases hu with rfl | rfl | rfl <;> rfl
theorem set_grown {w : World} {g : Nat} {cs : Array Value} {t : TypeId} {fr : Nat × Nat} (h : w.heap[g]? = some (.cells cs t fr)) (i : Nat) (v : Value) :
    w.grownBy (w.setCell ⟨g, i, none⟩ v) (some g) ∧ (w.setCell ⟨g, i, none⟩ v).heap.size = w.heap.size ∧ (w.setCell ⟨g, i, none⟩ v).heap[g]? = some (.cells (cs.setIfInBounds i v) t fr) := by
  rw [setCell_eq_setRow w g i _ _ _ v h]
  exact ⟨⟨rfl, rfl, rfl, by simp, fun k _ hk => setRow_other w g k _ (fun e => hk (by simp [e]))⟩, by simp, setRow_heap w g _ _ _ _ h⟩
theorem own_not' {w : World} {base : Nat} {e : TypeId} {size n : Nat} {v : Value} {xs : List Value} (h : w.ownsRow base e size v n xs) {k : Nat} (hk : w.heap.size ≤ k) : v.ownBlock = none ∨ v.ownBlock ≠ some k :=
  .inr fun he => by have := (h.lt k he).2; omega
theorem own_not {w : World} {base : Nat} {e : TypeId} {size n : Nat} {v : Value} {xs : List Value} (h : w.ownsRow base e size v n xs) {k : Nat} (hk : k < base) : v.ownBlock = none ∨ v.ownBlock ≠ some k :=
  .inr fun he => by have := (h.lt k he).1; omega

theorem fixedS_lt (l : List UInt8) (bad : Bool) (s : Nat) : (fixedS l bad s).1 < 256 ^ s := by
  unfold fixedS
  split
  · exact Nat.pos_of_ne_zero (by simp)
  · have := leV_lt (l.take s)
    simp only
    rwa [List.length_take, Nat.min_eq_left (by omega)] at this

set_option maxRecDepth 100000 in
set_option maxHeartbeats 200000 in
theorem Decode_calls (l : List UInt8) (v : Value) (w : World) (hv : RdB w v l) :
    Calls Try.prog 14 #[v] w fun e w' => ∃ v', e = .returned (.tuple #[.int .i64 (decB l).1, v', .int .i64 (decB l).2.2]) ∧
      w'.ownsRow w.heap.size 24 3 v' (decB l).2.1.length ((decB l).2.1.flatMap opC) ∧ Below w.heap.size w w' := by
  have HV := Lib.hid hv
  obtain ⟨A, c, rfl, hnc, hcm, q1, q2⟩ := hv
  clear q1 q2
  unfold maxLen at hcm
  have hs1 := fixedS_lt l false 8
  obtain ⟨a, ha⟩ : ∃ a, fixedS l false 8 = a := ⟨_, rfl⟩
  have hs2 := fixedS_lt a.2.1 a.2.2 4
  obtain ⟨b, hb⟩ : ∃ b, fixedS a.2.1 a.2.2 4 = b := ⟨_, rfl⟩
  rw [ha] at hs1
  rw [hb] at hs2
  have HR : Hid (decR l = decL b.1 b.2.1 b.2.2 []) := by show _ = _; unfold decR; rw [ha, hb]
  have HSeq : Hid (decSeq l = wrap64 (a.1 : Int)) := by show _ = _; unfold decSeq; rw [ha]
  have HB : Hid (decB l = if decOk l then (decSeq l, (decR l).2.2, 0) else (0, [], 2)) := rfl
  have HO : Hid (decOk l = (!(decR l).2.1 && (decR l).1.isEmpty && checkB (decSeq l) (decR l).2.2 == 0)) := rfl
  have st0 : InSt w (w.alloc (.cells #[.slice A l.length c, .bool false] 63)) w.heap.size (.slice A l.length c) false l :=
    ⟨HV.out, heap_alloc_new w _, (Below.refl _ _).alloc (Nat.le_refl _) _, by simp⟩
  have hs2' : (b.1 : Int) < 4294967296 := by have : b.1 < 4294967296 := hs2; omega
  clear hs1 hs2
  replace ha := Lib.hid ha
  replace hb := Lib.hid hb
  go_enter Try.func14, Try.ntmps14
  go_wp2_with (first
    | (go_at_call 30; refine (st1.fixed 4 (by omega)).mono ?_; rw [hb.out]; rintro e w2 ⟨v2, rfl, st2, _, _⟩)
    | (go_at_call 30; refine (st0.fixed 8 (by omega)).mono ?_; rw [ha.out]; rintro e w1 ⟨v1, rfl, st1, _, _⟩))
  obtain ⟨n, lb, badb⟩ := b
  obtain ⟨sq, la, bada⟩ := a
  simp only at HR HSeq hs2' st2 ⊢
  obtain ⟨r, hr⟩ : ∃ r, decR l = r := ⟨_, rfl⟩
  rw [hr] at HR HB HO
  clear hr st0 st1 ha hb HV
  have hst2 := st2
  go_loopw [8] (fun ov wr => ∃ (k : Nat) (l' : List UInt8) (bad : Bool) (v : Value) (acc : List OpD) (A : Option Addr) (c : Nat), k + acc.length = n ∧ ov = .slice A acc.length c ∧
      wr.ownsRow (w.heap.size + 1) 24 3 (.slice A acc.length c) acc.length (acc.flatMap opC) ∧ InSt w wr w.heap.size v bad l' ∧ Hid (r = decL k l' bad acc))
    (fun ov _ => n - lenOf ov)
  case atStart => exact ⟨n, lb, badb, _, [], none, 0, by simp, rfl, World.ownsRow_nil _ _ _ _, st2, HR⟩
  case round =>
    clear HR hst2 st2
    obtain ⟨k, l', bad, v, acc, A', c', hk, rfl, hown, stR, hr⟩ := hrel
    have c1 := stR.at_
    unfold inputAt at c1
    have c1 : wr.cell? ⟨w.heap.size, 1, none⟩ = some (.bool bad) := by simp [World.cell?, c1]
    have hno : (l'.length : Int) > 0 ∨ bad = true ∨ checkB (wrap64 ↑sq) acc ≠ 0 → (k = 0 ∨ bad = true) → decB l = (0, [], 2) := by
      intro h h'
      have hr2 : r = (l', bad, acc) := by
        rw [hr.out]
        rcases h' with rfl | rfl
        · rfl
        · exact decL_bad _ _ _
      rw [HB.out, if_neg]
      rw [HO.out, hr2, HSeq.out]
      rcases h with h | h | h
      · cases l' <;> simp at h ⊢
      · simp [h]
      · simp only [Bool.and_eq_true, not_and]
        intro _ h2
        exact h (by simpa using h2)
    have hyes : l' = [] → bad = false → checkB (wrap64 ↑sq) acc = 0 → k = 0 → decB l = (wrap64 ↑sq, acc, 0) := by
      intro h1 h2 h3 h4
      have hr2 : r = (l', bad, acc) := by rw [hr.out, h4]; rfl
      rw [HB.out, if_pos]
      · rw [HSeq.out, hr2]
      · rw [HO.out, hr2, HSeq.out, h1, h2]; simp [h3]
    replace hno := Lib.hid hno
    replace hyes := Lib.hid hyes
    clear HB HO HSeq
    have hbelow := stR.below
    cases bad
    · by_cases hk0 : k = 0
      · subst hk0
        have h0 : ¬ (acc.length : Int) < n := by omega
        replace hk := Lib.hid hk
        have hRd := stR.rd
        have c0 := stR.at_
        unfold inputAt at c0
        obtain ⟨A2, c2, rfl, hnc2, hcm2, q1, q2⟩ := hRd
        clear q1 q2
        replace c0 : wr.cell? ⟨w.heap.size, 0, none⟩ = some (.slice A2 l'.length c2) := by simp [World.cell?, c0]
        have KC := Lib.hid (fun (x : Int) (w' : World) (hx : RdT w' 3 opC (.slice A' acc.length c') acc) => Check_calls x acc (.slice A' acc.length c') w' hx)
        replace stR := Lib.hid stR
        replace hbelow := Lib.hid hbelow
        replace hown := Lib.hid hown
        by_cases hl : l' = []
        · subst hl
          have hl0 : ¬ (([] : List UInt8).length : Int) > 0 := by simp
          by_cases hc : checkB (wrap64 ↑sq) acc = 0
          · have hc' : (checkB (wrap64 ↑sq) acc != 0) = false := by simp [hc]
            replace hyes := Lib.hid (hyes.out rfl rfl hc rfl)
            clear hc hno
            go_wp2_with (first | (go_at_call 15; refine (KC.out _ _ (Rd.of_own hown.out)).mono ?_; rintro e w1 ⟨rfl, hb1⟩))
            go_ret3
            rw [hyes.out]
            exact ⟨_, rfl, own_below hown.out hb1 (by omega), hbelow.out.trans (hb1.mono hbelow.out.size)⟩
          · have hc' : (checkB (wrap64 ↑sq) acc != 0) = true := by simpa using hc
            replace hno := Lib.hid (hno.out (.inr (.inr hc)) (.inl rfl))
            clear hc hyes
            go_wp2_with (first | (go_at_call 15; refine (KC.out _ _ (Rd.of_own hown.out)).mono ?_; rintro e w1 ⟨rfl, hb1⟩))
            go_ret3
            rw [hno.out]
            exact ⟨_, rfl, World.ownsRow_nil _ _ _ _, hbelow.out.trans (hb1.mono hbelow.out.size)⟩
        · have hl0 : (l'.length : Int) > 0 := by have := List.length_pos_iff.2 hl; omega
          replace hno := Lib.hid (hno.out (.inl hl0) (.inl rfl))
          clear hyes
          go_wp2_with fail
          go_ret3
          rw [hno.out]
          exact ⟨_, rfl, World.ownsRow_nil _ _ _ _, hbelow.out⟩
      · have h0 : (acc.length : Int) < n := by omega
        obtain ⟨j, rfl⟩ : ∃ j, k = j + 1 := ⟨k - 1, by omega⟩
        clear hno hyes
        have hlt := fixedS_lt l' false 1
        have hr' : r = decL j (takeOp l' false).2.1 (takeOp l' false).2.2 (acc ++ [(takeOp l' false).1]) := by rw [hr.out]; rfl
        unfold takeOp at hr'
        obtain ⟨x, hx⟩ : ∃ x, fixedS l' false 1 = x := ⟨_, rfl⟩
        rw [hx] at hlt hr'
        obtain ⟨y, hy⟩ : ∃ y, textS x.2.1 x.2.2 64 = y := ⟨_, rfl⟩
        obtain ⟨z, hz⟩ : ∃ z, textS y.2.1 y.2.2 1000 = z := ⟨_, rfl⟩
        simp only at hr'
        rw [hy] at hr'
        rw [hz] at hr'
        replace hr' := Lib.hid hr'
        replace hx := Lib.hid hx
        replace hy := Lib.hid hy
        replace hz := Lib.hid hz
        replace hlt : (x.1 : Int) ≤ 255 := by have : x.1 < 256 := hlt; omega
        clear hr
        replace hk := Lib.hid hk
        replace hbelow := Lib.hid hbelow
        replace hown := Lib.hid hown
        obtain ⟨xn, xl, xb⟩ := x
        simp only at hlt hr' hy hx
        by_cases hx1 : (xn : Int) = 1
        · obtain rfl : xn = 1 := by omega
          replace hr' := hr'.out
          rw [if_pos hx1] at hr'
          replace hr' := Lib.hid hr'
          clear hx1
          have hb40 : (acc.length + 1) * 40 ≤ 140737488355328 := by omega
          go_wp2_with (first
            | (go_at_call 31; refine ((st4.alloc _).text 1000 (by omega)).mono ?_; rw [hz.out]; rintro e w5 ⟨v5, rfl, st5, g5, z5⟩; replace z5 := Lib.hid z5
               have e5 : w5.heap[w4.heap.size]? = some (.cells #[.int .i64 1, .string ⟨y.1.toArray⟩, .string ⟨#[]⟩] 24 (0, 0)) := (g5.block _ (by simp) (by have := st4.lt; intro e; injection e with e; omega)).trans (heap_alloc_new w4 _)
               have f5 : w5.frozen? ⟨w4.heap.size, 2, none⟩ = false := by simp [World.frozen?, e5]
               have c5 : w5.cell? ⟨w4.heap.size, 2, none⟩ = some (.string ⟨#[]⟩) := by simp [World.cell?, e5]
               obtain ⟨g6, z6, e6⟩ := set_grown e5 2 (.string ⟨z.1.toArray⟩)
               have d0 : (w5.setCell ⟨w4.heap.size, 2, none⟩ (.string ⟨z.1.toArray⟩)).cell? ⟨w4.heap.size, 0, none⟩ = some (.int .i64 1) := by simp [World.cell?, e6]
               have d1 : (w5.setCell ⟨w4.heap.size, 2, none⟩ (.string ⟨z.1.toArray⟩)).cell? ⟨w4.heap.size, 1, none⟩ = some (.string ⟨y.1.toArray⟩) := by simp [World.cell?, e6]
               have d2 : (w5.setCell ⟨w4.heap.size, 2, none⟩ (.string ⟨z.1.toArray⟩)).cell? ⟨w4.heap.size, 2, none⟩ = some (.string ⟨z.1.toArray⟩) := by simp [World.cell?, e6]
               have hown6 := Lib.hid (((hown4.out.alloc _).kept g5 (own_not hown.out (Nat.lt_succ_self _))).kept g6 (own_not' hown4.out (Nat.le_refl _)))
               have st6 := Lib.hid (st5.grown g6 (by intro k hk; injection hk with hk; have := st4.lt; omega))
               clear e5 e6 g6
               replace z6 := Lib.hid z6)
            | (at_builtin; refine wpL_app et_ops (.tmp 42) (.tmp 44) rfl rfl (hown6.out.alloc _) rfl rfl (src_blk (sz := 3) (cs := opC ⟨1, ⟨y.1.toArray⟩, ⟨z.1.toArray⟩⟩) (e := 24) (fr := (0, 0)) Try.underlying22 (new_at z6.out) rfl (opC_one _)) hb40 (by have := st5.lt; simp; omega) ?_; intro v7 w7 hown7 hg7 hat7)
            | (go_at_call 31; refine (st3.text 64 (by omega)).mono ?_; rw [hy.out]; rintro e w4 ⟨v4, rfl, st4, g4, z4⟩; replace z4 := Lib.hid z4; have hown4 := Lib.hid ((hown.out.kept g3 (own_not hown.out (Nat.lt_succ_self _))).kept g4 (own_not hown.out (Nat.lt_succ_self _))))
            | (go_at_call 30; refine (stR.fixed 1 (by omega)).mono ?_; rw [hx.out]; rintro e w3 ⟨v3, rfl, st3, g3, z3⟩; replace z3 := Lib.hid z3))
          obtain ⟨A7, c7, rfl, _, _, _, _⟩ := Rd.of_own hown7
          have st7 := (st6.out.alloc _).grown hg7 (fun k hk => Nat.lt_of_succ_le (hown.out.lt k hk).1)
          go_roundw
          case rel => exact ⟨j, z.2.1, z.2.2, v5, acc ++ [⟨1, ⟨y.1.toArray⟩, ⟨z.1.toArray⟩⟩], A7, c7, by have := hk.out; simp; omega, by simp, own_cast (v := .slice A7 (acc ++ [_]).length c7) (by simpa using hown7) rfl (by simp), st7, hr'⟩
          case measure => have := hk.out; simp [lenOf]; omega
        · have hx1' : ((xn : Int) == 1) = false := by simpa using hx1
          replace hr' := hr'.out
          rw [if_neg hx1] at hr'
          replace hr' := Lib.hid hr'
          replace hx1 := Lib.hid hx1
          have hb40 : (acc.length + 1) * 40 ≤ 140737488355328 := by omega
          go_wp2_with (first
            | (go_at_call 31; refine (st3.text 64 (by omega)).mono ?_; rw [hy.out]; rintro e w4 ⟨v4, rfl, st4, g4, z4⟩; replace z4 := Lib.hid z4; have hown4 := Lib.hid ((hown.out.kept g3 (own_not hown.out (Nat.lt_succ_self _))).kept g4 (own_not hown.out (Nat.lt_succ_self _))))
            | (go_at_call 30; refine (stR.fixed 1 (by omega)).mono ?_; rw [hx.out]; rintro e w3 ⟨v3, rfl, st3, g3, z3⟩; replace z3 := Lib.hid z3)
            | (at_builtin; refine wpL_app et_ops (.tmp 42) (.tmp 44) rfl rfl ((hown4.out.alloc _).alloc _) rfl rfl (src_blk (sz := 3) (cs := opC ⟨(xn : Int), ⟨y.1.toArray⟩, ⟨#[]⟩⟩) (e := 24) (fr := (0, 0)) Try.underlying22 (new_at (by simp)) rfl (opC_one _)) hb40 (by have := st4.lt; simp; omega) ?_; intro v6 w6 hown6 hg6 hat6))
          obtain ⟨A6, c6, rfl, _, _, _, _⟩ := Rd.of_own hown6
          have st6 := ((st4.alloc _).alloc _).grown hg6 (fun k hk => Nat.lt_of_succ_le (hown.out.lt k hk).1)
          go_roundw
          case rel => exact ⟨j, y.2.1, y.2.2, v4, acc ++ [⟨xn, ⟨y.1.toArray⟩, ⟨#[]⟩⟩], A6, c6, by have := hk.out; simp; omega, by simp, own_cast (v := .slice A6 (acc ++ [_]).length c6) (by simpa using hown6) rfl (by simp), st6, hr'⟩
          case measure => have := hk.out; simp [lenOf]; omega
    · replace hno := Lib.hid (hno.out (.inr (.inl rfl)) (.inr rfl))
      clear hyes hr
      replace hk := Lib.hid hk
      by_cases h0 : (acc.length : Int) < n
      · go_wp2_with fail
        go_ret3
        rw [hno.out]
        exact ⟨_, rfl, World.ownsRow_nil _ _ _ _, hbelow⟩
      · go_wp2_with fail
        go_ret3
        rw [hno.out]
        exact ⟨_, rfl, World.ownsRow_nil _ _ _ _, hbelow⟩
end Go.Proofs.Ytmgpfckkafcllaa
