/- The law KeepLooks: its walk. -/
import Derived.Test.YtpemfmlonamikaaKeepMore
import Derived.Test.YtpemfmlonamikaaShowLaw
namespace Go.Proofs.Ytpemfmlonamikaa
open Go Go.RowKit

theorem src_row {P : Program} {W : World} {H n : Nat} {cs : List Value} {e tx e' : TypeId} {fr : Nat × Nat} (hk : P.underlying tx = some (.slice e')) (hW : W.heap[H]? = some (.cells cs.toArray e fr)) (hl : cs.length = n) (h1 : ∀ u ∈ cs, u.oneCell' = true) :
    Src P 1 tx (.slice (some ⟨H, 0, none⟩) n n) n cs W :=
  Src.ofSlice _ hk _ n n cs (by omega) (fun j u hu => World.news_of_block hW j u (by simpa using hu)) h1
def twice (l : List Int) : List Int := l.flatMap fun a => [a, a]
def otherL (l : List Int) : List Int := twice l.reverse ++ [-1, 4611686018427387904]
theorem other_mem (l : List Int) : (∀ x ∈ l, x ∈ otherL l ∨ x < 0 ∨ maxSeq ≤ x) ∧ ∀ x ∈ otherL l, x ∈ l ∨ x < 0 ∨ maxSeq ≤ x := by
  unfold otherL twice
  constructor
  · intro x hx
    left
    rw [List.mem_append, List.mem_flatMap]
    exact .inl ⟨x, by simpa using hx, by simp⟩
  · intro x hx
    rcases List.mem_append.1 hx with h | h
    · obtain ⟨a, ha, hb⟩ := List.mem_flatMap.1 h
      have : x = a := by simpa using hb
      subst this
      exact .inl (by simpa using ha)
    · simp only [List.mem_cons, List.not_mem_nil, or_false] at h
      rcases h with rfl | rfl
      · exact .inr (.inl (by omega))
      · exact .inr (.inr (by decide))
theorem twice_len (l : List Int) : (twice l).length = 2 * l.length := by
  induction l with
  | nil => rfl
  | cons a l ih =>
    have : twice (a :: l) = a :: a :: twice l := rfl
    rw [this]; simp [ih]; omega
theorem twice_next {l : List Int} {k : Nat} (hk : k < l.length) : twice (l.take (k + 1)) = twice (l.take k) ++ [l[k], l[k]] := by
  unfold twice; rw [take_next hk, List.flatMap_append]; simp
theorem right_seq {l : List CellD} (h : rightL l = true) : ∀ c ∈ l, 0 ≤ c.seq ∧ c.seq ≤ maxSeq := by
  intro c hc
  obtain ⟨j, hj, rfl⟩ := List.mem_iff_getElem.1 hc
  have := (rightV_iff _).1 (((rightL_iff l).1 h).1 j hj)
  exact ⟨this.2.2.1, this.2.2.2.1⟩
theorem each_len {l : List CellD} (h : rightL l = true) : (keepL l (l.map (·.seq)) false).length = cntL none l := by
  have hs := right_sorted h
  rw [← keepF_keep l _ false hs, keep_each (fun c hc => ⟨List.mem_map.2 ⟨c, hc, rfl⟩, (right_seq h c hc).2⟩) hs]
  simp
def prevOf (l : List CellD) (k : Nat) : Option CellD := if k = 0 then none else l[k - 1]?
theorem cnt_next {l : List CellD} {k : Nat} (hk : k < l.length) : cntL (prevOf l k) (l.drop k) = (if newB (prevOf l k) l[k] then 1 else 0) + cntL (prevOf l (k + 1)) (l.drop (k + 1)) := by
  rw [List.drop_eq_getElem_cons hk]
  have : prevOf l (k + 1) = some l[k] := by unfold prevOf; rw [if_neg (by omega)]; simp [hk]
  rw [this]; rfl
theorem new_same {l : List CellD} {k : Nat} (hk : k < l.length) (h0 : 0 < k) : newB (prevOf l k) l[k] = (!((l[k - 1]'(by omega)).key.toList == l[k].key.toList) || !((l[k - 1]'(by omega)).seq == l[k].seq)) := by
  have : prevOf l k = some (l[k - 1]'(by omega)) := by unfold prevOf; rw [if_neg (by omega)]; exact List.getElem?_eq_getElem (by omega)
  rw [this]; rfl
theorem newB_at {l : List CellD} {i p : Nat} {x y : CellD} (hi : i < l.length) (hp : p < l.length) (e : i = p + 1) (hx : l[i] = x) (hy : l[p] = y) : newB (prevOf l i) x = (!(y.key.toList == x.key.toList) || !(y.seq == x.seq)) := by
  subst e hx hy
  exact new_same hi (by omega)
set_option maxRecDepth 100000 in
set_option maxHeartbeats 4000000 in
theorem KeepLooks_calls (l : List CellD) (looks : List Int) (bottom : Bool) (v vz : Value) (w : World) (hv : RdT w 4 cellC v l) (hz : RdT w 1 intC vz looks) :
    Calls Try.prog 6 #[v, vz, .bool bottom] w fun e w' => e = .returned (.bool true) ∧ Below w.heap.size w w' := by
  have HV := Lib.hid hv
  obtain ⟨A, c, rfl, hnc, hcm⟩ := hv.len
  have HZ := Lib.hid hz
  obtain ⟨Az, cz, rfl, hnz, hcz⟩ := hz.len
  have hsg := sort_good l
  obtain ⟨s, hs⟩ : ∃ s, sortD l = s := ⟨_, rfl⟩
  rw [hs] at hsg
  have KSo' : ∀ W, RdT W 4 cellC (.slice A l.length c) l → Calls Try.prog 11 #[.slice A l.length c] W fun e w' => ∃ v', e = .returned v' ∧ w'.ownsRow W.heap.size 36 4 v' s.length (s.flatMap cellC) ∧ Below W.heap.size W w' := fun W h => by have := sort_calls l (.slice A l.length c) W h; rw [hs] at this; exact this
  obtain ⟨m, hm⟩ : ∃ m, m = min looks.length 15 := ⟨_, rfl⟩
  have hmi : min (looks.length : Int) 15 = (m : Int) := by omega
  have hm1 : m ≤ looks.length := by omega
  have hm2 : m ≤ 15 := by omega
  obtain ⟨ls, hls⟩ : ∃ ls, looks.take m = ls := ⟨_, rfl⟩
  have hll : ls.length = m := by rw [← hls]; simp; omega
  have hzt : ∀ W, Below w.heap.size w W → RdT W 1 intC (.slice Az m cz) ls := fun W h => by rw [← hls]; exact take_int (HZ.out.below h) hm1
  have hkr : ∀ zs b, keepR s zs b = (keepL s zs b, 0) := fun zs b => by unfold keepR; rw [hsg.1]; rfl
  have hab : keepL s ls bottom = keepL s (otherL ls) bottom := keep_congr s (right_seq hsg.1) (right_sorted hsg.1) bottom (other_mem ls).1 (other_mem ls).2
  have hcn := each_len hsg.1
  have KK : ∀ W vs vz zs b, RdT W 4 cellC vs s → RdT W 1 intC vz zs → zs.length ≤ 1000 → Calls Try.prog 12 #[vs, vz, .bool b] W (KeepPost W (keepL s zs b, 0)) := fun W vs vz zs b h1 h2 h3 => by
    have := Keep_calls s zs b vs vz W h1 h2 (by have := hsg.2; omega) (by omega)
    rw [hkr] at this; exact this
  have hsl := hsg.2
  have hol : (otherL ls).length = 2 * m + 2 := by unfold otherL; rw [List.length_append, twice_len]; simp [hll]
  obtain ⟨kl, hkl⟩ : ∃ kl, keepL s ls bottom = kl := ⟨_, rfl⟩
  obtain ⟨ke, hke⟩ : ∃ ke, keepL s (s.map (·.seq)) false = ke := ⟨_, rfl⟩
  have KKa : ∀ W vs vz, RdT W 4 cellC vs s → RdT W 1 intC vz ls → Calls Try.prog 12 #[vs, vz, .bool bottom] W (KeepPost W (kl, 0)) := fun W vs vz h1 h2 => by
    have := KK W vs vz ls bottom h1 h2 (by omega)
    rw [hkl] at this; exact this
  have KKb : ∀ W vs vz, RdT W 4 cellC vs s → RdT W 1 intC vz (otherL ls) → Calls Try.prog 12 #[vs, vz, .bool bottom] W (KeepPost W (kl, 0)) := fun W vs vz h1 h2 => by
    have := KK W vs vz (otherL ls) bottom h1 h2 (by omega)
    rw [← hab, hkl] at this; exact this
  have KKc : ∀ W vs vz, RdT W 4 cellC vs s → RdT W 1 intC vz (s.map (·.seq)) → Calls Try.prog 12 #[vs, vz, .bool false] W (KeepPost W (ke, 0)) := fun W vs vz h1 h2 => by
    have := KK W vs vz (s.map (·.seq)) false h1 h2 (by simp; omega)
    rw [hke] at this; exact this
  rw [hke] at hcn
  have hkk : sameC kl kl = true := sameC_iff.2 rfl
  have KCe : ∀ W vs vu, RdT W 4 cellC vs kl → RdT W 4 cellC vu kl → Calls Try.prog 16 #[vs, vu] W fun e w' => e = .returned (.bool true) ∧ Below W.heap.size W w' := fun W vs vu h1 h2 => by
    have := Cells_calls kl kl vs vu W h1 h2
    rw [hkk] at this; exact this
  clear hm hs hls hkr hsg hv hz KK hab hkl hke hol hkk
  replace KSo' := Lib.hid KSo'
  replace hzt := Lib.hid hzt
  replace hcn := Lib.hid hcn
  replace KKa := Lib.hid KKa
  replace KKb := Lib.hid KKb
  replace KKc := Lib.hid KKc
  replace KCe := Lib.hid KCe
  replace hll := Lib.hid hll
  have hmc : (m : Int) ≤ cz := by omega
  have hm0 : (0 : Int) ≤ m := by omega
  go_enter Try.func6, Try.ntmps6
  go_wp2_with fail
  refine (spares_calls _).mono ?_
  rintro e w1 ⟨rfl, hb1⟩
  go_wp2_with fail
  refine (KSo'.out w1 (HV.out.below hb1)).mono ?_
  rintro e w2 ⟨v2, rfl, hown2, hb2⟩
  have hb2' := hb1.trans (hb2.mono hb1.size)
  have hR2 : RdT w2 4 cellC v2 s := Rd.of_own hown2
  obtain ⟨A2, c2, rfl, hc21, hc22⟩ := hR2.len
  clear hown2 hb1 hb2
  replace hR2 := Lib.hid hR2
  replace hb2' := Lib.hid hb2'
  have hs2 := hb2'.out.size
  go_wp2_with fail
  go_loopw [7, 8] (fun ov iv wr => ∃ j : Nat, j ≤ m ∧ iv = .int .i64 ((m : Int) - 1 - j) ∧ wr.ownsRow w2.heap.size 3 1 ov (2 * j) ((twice (ls.reverse.take j)).flatMap intC) ∧ Hid (Below w2.heap.size w2 wr))
    (fun _ iv _ => (intOf iv + 1).toNat)
  case atStart => exact ⟨0, Nat.zero_le _, by simp, World.ownsRow_nil _ _ _ _, Below.refl _ _⟩
  case round =>
    obtain ⟨j, hj, rfl, hown, hb⟩ := hrel
    have hsz := hb.out.size
    have hbw := hb2'.out.trans (hb.out.mono hs2)
    by_cases hjm : j < m
    · obtain ⟨i, hi⟩ : ∃ i : Nat, i = m - 1 - j := ⟨_, rfl⟩
      have hiz : (m : Int) - 1 - j = (i : Int) := by omega
      have him : i < m := by omega
      have him' : (i : Int) < m := by omega
      have hi0 : (0 : Int) ≤ i := by omega
      have hi0' : (i : Int) ≥ 0 := by omega
      have hjn : (i : Int) - 1 = (m : Int) - 1 - ((j + 1 : Nat) : Int) := by omega
      rw [hiz]
      replace hjn := Lib.hid hjn
      replace hiz := Lib.hid hiz
      replace hi := Lib.hid hi
      obtain ⟨b, off, hA, hblt, c0⟩ := atInt (hzt.out w (Below.refl _ _)) hbw (show i < ls.length by rw [hll.out]; exact him)
      subst hA
      have hrv : ls.reverse.length = m := by rw [List.length_reverse]; exact hll.out
      have hnx := twice_next (l := ls.reverse) (k := j) (by omega)
      have hge : (ls.reverse)[j]'(by omega) = ls[i]'(by rw [hll.out]; exact him) := by
        rw [List.getElem_reverse]
        congr 1
        have := hll.out
        have := hi.out
        omega
      rw [hge] at hnx
      generalize ls[i]'(by rw [hll.out]; exact him) = a at *
      have hKS : ∀ W, Below w2.heap.size wr W → W.cell? ⟨b, off + i, none⟩ = some (.int .i64 a) := fun W h => (below_at h (by omega) _).trans c0
      replace hKS := Lib.hid hKS
      replace hnx := Lib.hid hnx
      clear hrv hge
      replace hbw := Lib.hid hbw
      have B1 : (2 * j + 2) * 8 ≤ 140737488355328 := by omega
      go_wp2_with fail
      go_region_held3 (fun W => W.cell? ⟨b, off + i, none⟩ = some (.int .i64 a))
        (first | (with_reducible exact hKS.out _ (Below.refl _ _).drew) | (with_reducible exact hKS.out _ ((Below.refl w2.heap.size wr).alloc hsz _).drew) | (with_reducible exact hKS.out _ hb1x))
        ((refine step_app et_int (.tmp 34) (.tmp 43) rfl rfl (hown.alloc _) rfl rfl (src_row (cs := [.int .i64 a, .int .i64 a]) (e := 3) (fr := (0, 0)) Try.underlying23 (new_at rfl) rfl (by intro u hu; simp at hu; subst hu; rfl)) B1 ?_ ?_
          · exact Nat.le_trans hsz (by simp)
          intro v1 w3 hown3 hg3 hat3
          have hb0 := below_app ((hb.out.alloc hsz _).drew) hg3 (hown.alloc _) (Nat.le_refl _) (Nat.le_trans hsz (by simp))
          have hb1x := below_app (((Below.refl w2.heap.size wr).alloc hsz _).drew) hg3 (hown.alloc _) (Nat.le_refl _) (Nat.le_trans hsz (by simp))))
      go_wp2_with fail
      go_roundw
      case rel => exact ⟨j + 1, by omega, by rw [hjn.out], own_cast hown3 (by omega) (by rw [hnx.out]; simp [intC]), hb0⟩
      case measure => simp [intOf] <;> omega
    · obtain rfl : j = m := by omega
      have hiz : (j : Int) - 1 - j = -1 := by omega
      rw [hiz]
      have hown' := own_cast (xs' := (twice ls.reverse).flatMap intC) hown rfl (by rw [List.take_of_length_le (by rw [List.length_reverse, hll.out]; exact Nat.le_refl _)])
      have B1 : (2 * j + 2) * 8 ≤ 140737488355328 := by omega
      clear hown
      go_wp2_with (at_builtin; refine wpL_app et_int (.tmp 45) (.tmp 46) rfl rfl (hown'.alloc _) rfl rfl (src_row (cs := [.int .i64 (-1), .int .i64 4611686018427387904]) (e := 3) (fr := (0, 0)) Try.underlying23 (new_at rfl) rfl (by intro u hu; simp at hu; rcases hu with rfl | rfl <;> rfl)) B1 (Nat.le_trans hsz (by simp)) ?_; intro v3 w3 hown3 hg3 hat3)
      have hb3 := Lib.hid (below_app (hb.out.alloc hsz _) hg3 (hown'.alloc _) (Nat.le_refl _) (Nat.le_trans hsz (by simp)))
      have hb3' := Lib.hid (hb2'.out.trans (hb3.out.mono hs2))
      have hR3 : RdT w3 1 intC v3 (otherL ls) := Rd.of_own (own_cast (n' := (otherL ls).length) hown3 (by unfold otherL; rw [List.length_append, twice_len, List.length_reverse, hll.out]; rfl) (by unfold otherL; rw [List.flatMap_append]; rfl))
      clear hown3 hg3 hat3 hown' hbw hb hiz
      replace hR3 := Lib.hid hR3
      refine (KKa.out w3 _ _ (hR2.out.below hb3.out) (hzt.out w3 hb3'.out)).mono ?_
      rintro e w4 ⟨v4, rfl, hown4, hb4⟩
      have hR4 : RdT w4 4 cellC v4 kl := Rd.of_own hown4
      have hb4c := Lib.hid (hb3.out.trans (hb4.mono hb3.out.size))
      have hR3' := Lib.hid (hR3.out.below hb4)
      clear hown4 hR3
      replace hR4 := Lib.hid hR4
      replace hb4 := Lib.hid hb4
      go_wp2_with fail
      refine (KKb.out w4 _ _ (hR2.out.below hb4c.out) hR3'.out).mono ?_
      rintro e w5 ⟨v5, rfl, hown5, hb5⟩
      have hR5 : RdT w5 4 cellC v5 kl := Rd.of_own hown5
      have hb5c := Lib.hid (hb4c.out.trans (hb5.mono hb4c.out.size))
      have hR4' := Lib.hid (hR4.out.below hb5)
      clear hown5 hR4 hR3' hb4 hb4c hb3 hb3'
      replace hR5 := Lib.hid hR5
      replace hb5 := Lib.hid hb5
      have hs5 := hb5c.out.size
      go_wp2_with fail
      go_loopw [13, 14, 15] (fun ev sv iv wx => ∃ (i k : Nat), i ≤ s.length ∧ iv = .int .i64 (i : Int) ∧ sv = .int .i64 (k : Int) ∧ k ≤ i ∧ Hid (k + cntL (prevOf s i) (s.drop i) = cntL none s) ∧ wx.ownsRow w5.heap.size 3 1 ev i (((s.take i).map (·.seq)).flatMap intC) ∧ Hid (Below w5.heap.size w5 wx))
        (fun _ _ iv _ => s.length - (intOf iv).toNat)
      case atStart => exact ⟨0, 0, Nat.zero_le _, rfl, rfl, Nat.le_refl _, Lib.hid (by simp [prevOf]), World.ownsRow_nil _ _ _ _, Below.refl _ _⟩
      case round =>
        obtain ⟨i, k, hi, rfl, rfl, hki, hcnt, hown, hb⟩ := hrel
        obtain ⟨wx, rfl⟩ : ∃ wx : World, wx = wr := ⟨_, rfl⟩
        have hsz := hb.out.size
        have hbx := Lib.hid (hb5c.out.trans (hb.out.mono hs5))
        by_cases hil : i < s.length
        · have hil' : (i : Int) < s.length := by omega
          have h0 : (0 : Int) ≤ i := by omega
          obtain ⟨b, off, x, hA, hblt, hx, c0, c1, q2, c3⟩ := atCell hR2.out hbx.out hil
          subst hA
          have hw1 : IntKind.i64.wrap ((i : Int) + 1) = (i : Int) + 1 := IntWalk.i64_in _ (by omega)
          have hwk : IntKind.i64.wrap ((k : Int) + 1) = (k : Int) + 1 := IntWalk.i64_in _ (by omega)
          have B2 : (i + 1) * 8 ≤ 140737488355328 := by omega
          have hnx : ((s.take (i + 1)).map (·.seq)).flatMap intC = ((s.take i).map (·.seq)).flatMap intC ++ [.int .i64 x.seq] := by
            rw [take_next hil, List.map_append, List.flatMap_append, hx.out]; rfl
          have hcn2 := cnt_next hil
          replace hnx := Lib.hid hnx
          clear hnc hcm
          have hb6z : ∀ (w6 : World) v6, wx.grownBy w6 v6 → True := fun _ _ _ => trivial
          clear hb6z
          have KX : ∀ W, Below w5.heap.size wx W → W.cell? ⟨b, off + i * 4, none⟩ = some (.string x.key) ∧ W.cell? ⟨b, off + i * 4 + 1, none⟩ = some (.int .i64 x.seq) := fun W h => ⟨(below_at h (by omega) _).trans c0, (below_at h (by omega) _).trans c1⟩
          replace KX := Lib.hid KX
          by_cases hi0 : i = 0
          · subst hi0
            have KX6 : ∀ w6 : World, Below w5.heap.size wx w6 → ∀ W, InB w6 W → W.cell? ⟨b, off + 0 * 4, none⟩ = some (.string x.key) ∧ W.cell? ⟨b, off + 0 * 4 + 1, none⟩ = some (.int .i64 x.seq) := fun w6 h W hW => KX.out W (h.trans (hW.below.mono (Nat.le_trans hsz h.size)))
            replace KX6 := Lib.hid KX6
            obtain rfl : k = 0 := by omega
            have hfin : Hid ((0 + 1) + cntL (prevOf s (0 + 1)) (s.drop (0 + 1)) = cntL none s) := Lib.hid <| by
              have := hcnt.out
              have e : newB (prevOf s 0) (s[0]'hil) = true := rfl
              rw [e] at hcn2
              rw [if_pos rfl] at hcn2
              rw [hcn2] at this
              simpa using this
            clear hcn2 hcnt
            go_wp2_with (at_builtin; refine wpL_app et_int (.tmp 68) (.tmp 75) rfl rfl (hown.alloc _) rfl rfl (src_one (u := .int .i64 x.seq) Try.underlying23 rfl rfl rfl) (by omega) (by simp; omega) ?_; intro v6 w6 hown6 hg6 hat6)
            have hb6 := below_app (hb.out.alloc hsz _) hg6 (hown.alloc _) (Nat.le_refl _) (Nat.le_trans hsz (by simp))
            have hb6x := below_app ((Below.refl w5.heap.size wx).alloc hsz _) hg6 (hown.alloc _) (Nat.le_refl _) (Nat.le_trans hsz (by simp))
            have hs6 := hb6.size
            have hR6 := own_cast hown6 rfl hnx.out.symm
            clear hown6 hown hat6 hg6
            replace hR6 := Lib.hid hR6
            replace hb6 := Lib.hid hb6

            replace KX6 := Lib.hid (KX6.out w6 hb6x)
            simp only [Nat.zero_mul, Nat.add_zero] at c0 c1 q2 c3
            clear c0 c1 q2 c3
            refine wp_region_inB (by kernel_rfl) (by kernel_rfl) ?_
            repeat (go_big_quiet_step ((first
                | (intro _; exact rfl)
                | (intro hW; obtain ⟨k0, k1⟩ := KX6.out _ hW; go_simp; exact rfl))))
            refine wpQuiet_nil ?_
            intro w7 hb7
            replace hb7 := InB.below hb7
            have hb7c := Lib.hid (hb6.out.trans (hb7.mono hs6))
            have hR7 := Lib.hid (own_below hR6.out hb7 (Nat.le_refl _))
            clear hb7 hR6
            go_wp2_with fail
            go_roundw

            case rel => exact ⟨0 + 1, 0 + 1, by omega, by go_num, by go_num, by omega, hfin, hR7.out, hb7c⟩
            case measure => simp [intOf]; omega
          · obtain ⟨p, hp⟩ : ∃ p, i = p + 1 := ⟨i - 1, by omega⟩
            have hpl : p < s.length := by omega
            have hpl' : (p : Int) < s.length := by omega
            have hp0 : (0 : Int) ≤ p := by omega
            have hii : (i : Int) - 1 = (p : Int) := by omega
            have hiz : (i : Int) ≠ 0 := by omega
            have hz1 : ((i : Int) == 0) = false := by simp; omega
            have hz2 : (i == 0) = false := by simp; omega
            have hz3 : decide (i = 0) = false := by simp; omega
            obtain ⟨b', off', y, hA', hbt', hy, e0, e1, e2, e3⟩ := atCell hR2.out hbx.out hpl
            injection hA' with hA'
            injection hA' with hA1 hA2
            subst hA1 hA2
            have KY : ∀ w6 : World, Below w5.heap.size wx w6 → ∀ W, InB w6 W → W.cell? ⟨b, off + p * 4, none⟩ = some (.string y.key) ∧ W.cell? ⟨b, off + p * 4 + 1, none⟩ = some (.int .i64 y.seq) := fun w6 h W hW => ⟨(below_at (h.trans (hW.below.mono (Nat.le_trans hsz h.size))) (by omega) _).trans e0, (below_at (h.trans (hW.below.mono (Nat.le_trans hsz h.size))) (by omega) _).trans e1⟩
            have KX6 : ∀ w6 : World, Below w5.heap.size wx w6 → ∀ W, InB w6 W → W.cell? ⟨b, off + i * 4, none⟩ = some (.string x.key) ∧ W.cell? ⟨b, off + i * 4 + 1, none⟩ = some (.int .i64 x.seq) := fun w6 h W hW => KX.out W (h.trans (hW.below.mono (Nat.le_trans hsz h.size)))
            replace KY := Lib.hid KY
            replace KX6 := Lib.hid KX6
            have hns := newB_at hil hpl hp hx.out hy.out
            replace hp := Lib.hid hp
            rw [hx.out, hns] at hcn2
            clear hns e0 e1 e2 e3 KX
            have hfin : Hid (∀ bb, (!(y.key.toList == x.key.toList) || !(y.seq == x.seq)) = bb → (k + (if bb = true then 1 else 0)) + cntL (prevOf s (i + 1)) (s.drop (i + 1)) = cntL none s) := fun bb h => by
              have := hcnt.out
              rw [h] at hcn2
              omega
            clear hcn2 hcnt
            go_wp2_with (at_builtin; refine wpL_app et_int (.tmp 68) (.tmp 75) rfl rfl (hown.alloc _) rfl rfl (src_one (u := .int .i64 x.seq) Try.underlying23 rfl rfl rfl) (by omega) (by simp; omega) ?_; intro v6 w6 hown6 hg6 hat6)
            have hb6 := below_app (hb.out.alloc hsz _) hg6 (hown.alloc _) (Nat.le_refl _) (Nat.le_trans hsz (by simp))
            have hb6x := below_app ((Below.refl w5.heap.size wx).alloc hsz _) hg6 (hown.alloc _) (Nat.le_refl _) (Nat.le_trans hsz (by simp))
            have hs6 := hb6.size
            have hR6 := own_cast hown6 rfl hnx.out.symm
            clear hown6 hown hat6 hg6
            replace hR6 := Lib.hid hR6
            replace hb6 := Lib.hid hb6

            replace KX6 := Lib.hid (KX6.out w6 hb6x)
            replace KY := Lib.hid (KY.out w6 hb6x)
            clear c0 c1 q2 c3
            obtain ⟨bk, hbk⟩ : ∃ bk, (y.key.toList == x.key.toList) = bk := ⟨_, rfl⟩
            rw [hbk] at hfin
            rcases bk with _ | _
            · have hf := Lib.hid (hfin.out true (by simp))
              clear hfin
              refine wp_region_inB (by kernel_rfl) (by kernel_rfl) ?_
              repeat (go_big_quiet_step ((first
                  | (intro _; exact rfl)
                  | (intro hW; obtain ⟨k0, k1⟩ := KX6.out _ hW; go_simp; exact rfl)
                  | (intro hW; obtain ⟨k0, k1⟩ := KY.out _ hW; go_simp; exact rfl))))
              refine wpQuiet_nil ?_
              intro w7 hb7
              replace hb7 := InB.below hb7
              have hb7c := Lib.hid (hb6.out.trans (hb7.mono hs6))
              have hR7 := Lib.hid (own_below hR6.out hb7 (Nat.le_refl _))
              clear hb7 hR6
              go_wp2_with fail
              go_roundw

              case rel => exact ⟨i + 1, k + 1, by omega, by go_num, by go_num, by omega, hf, hR7.out, hb7c⟩
              case measure => simp [intOf]; omega
            · obtain ⟨bs, hbs⟩ : ∃ bs, (y.seq == x.seq) = bs := ⟨_, rfl⟩
              have hbs' : (y.seq != x.seq) = !bs := by rw [← hbs]; rfl
              have hf := Lib.hid (hfin.out (!bs) (by rw [hbs]; simp))
              clear hfin
              rcases bs with _ | _
              · have hne : ¬ y.seq = x.seq := by simpa using hbs
                refine wp_region_inB (by kernel_rfl) (by kernel_rfl) ?_
                repeat (go_big_quiet_step ((first
                    | (intro _; exact rfl)
                    | (intro hW; obtain ⟨k0, k1⟩ := KX6.out _ hW; go_simp; exact rfl)
                    | (intro hW; obtain ⟨k0, k1⟩ := KY.out _ hW; go_simp; exact rfl))))
                refine wpQuiet_nil ?_
                intro w7 hb7
                replace hb7 := InB.below hb7
                have hb7c := Lib.hid (hb6.out.trans (hb7.mono hs6))
                have hR7 := Lib.hid (own_below hR6.out hb7 (Nat.le_refl _))
                clear hb7 hR6
                go_wp2_with fail
                go_roundw

                case rel => exact ⟨i + 1, k + 1, by omega, by go_num, by go_num, by omega, hf, hR7.out, hb7c⟩
                case measure => simp [intOf]; omega
              · have hne : decide (y.seq = x.seq) = true := by simpa using hbs
                refine wp_region_inB (by kernel_rfl) (by kernel_rfl) ?_
                repeat (go_big_quiet_step ((first
                    | (intro _; exact rfl)
                    | (intro hW; obtain ⟨k0, k1⟩ := KX6.out _ hW; go_simp; exact rfl)
                    | (intro hW; obtain ⟨k0, k1⟩ := KY.out _ hW; go_simp; exact rfl))))
                refine wpQuiet_nil ?_
                intro w7 hb7
                replace hb7 := InB.below hb7
                have hb7c := Lib.hid (hb6.out.trans (hb7.mono hs6))
                have hR7 := Lib.hid (own_below hR6.out hb7 (Nat.le_refl _))
                clear hb7 hR6
                go_wp2_with fail
                go_roundw

                case rel => exact ⟨i + 1, k, by omega, by go_num, by go_num, by omega, hf, hR7.out, hb7c⟩
                case measure => simp [intOf]; omega
        · obtain rfl : i = s.length := by omega
          have hk9 : k = ke.length := by
            have h1 := hcnt.out
            have h2 := hcn.out
            rw [List.drop_length] at h1
            simp only [cntL] at h1
            omega
          have hR9 : RdT wx 1 intC u13 (s.map (·.seq)) := Rd.of_own (own_cast hown (by simp) (by rw [List.take_length]))
          subst hk9
          have hkz : ((ke.length : Int) == ke.length) = true := by simp
          clear hown hcnt
          replace hR9 := Lib.hid hR9
          go_wp2_with fail
          refine (KKc.out wx _ _ (hR2.out.below (hb5c.out.trans (hb.out.mono hs5))) hR9.out).mono ?_
          rintro e w8 ⟨v8, rfl, hown8, hb8⟩
          have hb8c := Lib.hid (hb.out.trans (hb8.mono hb.out.size))
          have hR8 : RdT w8 4 cellC v8 ke := Rd.of_own hown8
          obtain ⟨A8, c8, rfl, _, _⟩ := hR8.len
          clear hown8 hb8 hR8
          go_wp2_with fail
          refine (KCe.out w8 _ _ (hR4'.out.below hb8c.out) (hR5.out.below hb8c.out)).mono ?_
          rintro e w9 ⟨rfl, hb9⟩
          have hb9c := Lib.hid (hb8c.out.trans (hb9.mono hb8c.out.size))
          clear hb9
          go_wp2_with fail
          go_ret
          exact ⟨rfl, hb2'.out.trans ((hb5c.out.trans (hb9c.out.mono hs5)).mono hs2)⟩
end Go.Proofs.Ytpemfmlonamikaa
