/- keep.Keep. -/
import Derived.Test.YticplbnnmajcpaaKeepC
import Derived.Test.YticplbnnmajcpaaKeepSet
import Derived.Shelf.Sort.Plain
import Derived.Sort.OwnSortedInts
import Derived.Lib.MinMax
namespace Go.Proofs.Yticplbnnmajcpaa
open Go Go.RowKit Go.Sort

shelf_lay Lays.n189 Nm 189 at Try as Try.laysSort
theorem flat_int (zs : List Int) : zs.flatMap intC = zs.map (Value.int .i64) := by
  induction zs with
  | nil => rfl
  | cons a l ih => simp [intC, ih]
def srt (zs : List Int) : List Int := zs.mergeSort fun x y => decide (x ≤ y)
theorem srt_len (zs : List Int) : (srt zs).length = zs.length := List.length_mergeSort _
theorem srt_mem (zs : List Int) (a : Int) : a ∈ srt zs ↔ a ∈ zs := List.mem_mergeSort
theorem srt_sorted (zs : List Int) : (srt zs).Pairwise (· ≤ ·) := by
  have := List.pairwise_mergeSort (le := fun x y : Int => decide (x ≤ y)) (fun a b c h1 h2 => by simp at *; omega) (fun a b => by simp; omega) zs
  exact this.imp (fun h => by simpa using h)
theorem Sort_calls (zs : List Int) (v : Value) (w : World) (base : Nat) (h : w.ownsRow base 3 1 v zs.length (zs.flatMap intC)) (hne : zs ≠ []) (hl : zs.length ≤ 1000000) :
    Calls Try.prog 29 #[v] w fun e w' => e = .returned (.tuple #[]) ∧ w'.ownsRow base 3 1 v zs.length ((srt zs).flatMap intC) ∧ w.grownBy w' v.ownBlock := by
  obtain ⟨h1, h2⟩ := h
  rcases h2 with ⟨rfl, h0⟩ | ⟨g, cap, cur, rfl, hg, hh, hnc, hcm, hsz, htk⟩
  · exact absurd (List.eq_nil_of_length_eq_zero h0) hne
  · have ht : cur.toList.take zs.length = zs.map (Value.int .i64) := by
      rw [flat_int] at htk
      simpa using htk
    refine (Any.slices_Sort_int Try.laysSort g 0 cap zs w (holds_of_blockI hh ht) (lt_of_at hh) (by omega)).mono fun e w' ⟨he, n, os, hw⟩ => ⟨he, ?_, ?_⟩
    · subst hw
      rw [flat_int]
      exact ownsRow_sortedI (srt_len zs) hg hh hnc hcm hsz
    · subst hw
      exact grownBy_sortedI _

theorem et_int : ElemT Try.prog 23 3 (.int .i64 0) 1 8 := .mk' Try.underlying23 (by kernel_rfl) rfl (by decide) (by decide)
def capL (looks : List Int) : List Int := maxSeq :: looks.map (fun n => min n maxSeq)
theorem capL_mem (looks : List Int) (a : Int) : a ∈ srt (capL looks) ↔ a = maxSeq ∨ ∃ b ∈ looks, a = min b maxSeq := by
  rw [srt_mem]
  unfold capL
  simp only [List.mem_cons, List.mem_map]
  constructor
  · rintro (h | ⟨b, hb, h⟩)
    · exact .inl h
    · exact .inr ⟨b, hb, h.symm⟩
  · rintro (h | ⟨b, hb, h⟩)
    · exact .inl h
    · exact .inr ⟨b, hb, h.symm⟩
/-- What the program keeps is what the document does. -/
theorem keepG_keepL {l : List CellD} (hr : rightL l = true) (looks : List Int) (bottom : Bool) : (grp l).flatMap (keepG (srt (capL looks)) bottom) = keepL l looks bottom := by
  have hh := (rightL_iff l).1 hr
  have hso : sortedL l = true := (sorted_iff l).2 hh.2
  have hm : ∀ c ∈ l, c.seq ≤ maxSeq := fun c hc => by
    obtain ⟨j, hj, rfl⟩ := List.mem_iff_getElem.1 hc
    have := (rightV_iff _).1 (hh.1 j hj)
    exact this.2.2.2.1
  have hsp := (grp_spec l.length l (Nat.le_refl _) hso).1
  have key : ∀ gs : List (List CellD), (∀ g ∈ gs, ∀ c ∈ g, c.seq ≤ maxSeq) → gs.flatMap (keepG (srt (capL looks)) bottom) = gs.flatMap fun g => trimB bottom (seenG looks none g) := by
    intro gs
    induction gs with
    | nil => intro _; rfl
    | cons g gs ih =>
      intro h
      simp only [List.flatMap_cons]
      rw [ih fun g' hg' => h g' (by simp [hg'])]
      congr 1
      unfold keepG
      rw [seenT_seenG (looks := looks) (p := none) (capL_mem looks) (h g (by simp)) rfl]
  exact key _ fun g hg c hc => hm c ((hsp g hg).2.2.1 c hc)
def keepR (l : List CellD) (looks : List Int) (bottom : Bool) : List CellD × Int := if rightL l then (keepL l looks bottom, 0) else ([], 2)
def KeepPost (w : World) (r : List CellD × Int) (e : Ending) (w' : World) : Prop := ∃ v', e = .returned (.tuple #[v', .int .i64 r.2]) ∧ w'.ownsRow w.heap.size 35 4 v' r.1.length (r.1.flatMap cellC) ∧ Below w.heap.size w w'
theorem atInt {w W : World} {A : Option Addr} {n c : Nat} {l : List Int} (h : RdT w 1 intC (.slice A n c) l) (hb : Below w.heap.size w W) {k : Nat} (hk : k < l.length) :
    ∃ b off, A = some ⟨b, off, none⟩ ∧ b < w.heap.size ∧ W.cell? ⟨b, off + k, none⟩ = some (.int .i64 l[k]) := by
  obtain ⟨b, off, e, hlt, hc⟩ := h.atB hb intC_len (by omega) hk
  have := hc 0 _ rfl
  exact ⟨b, off, e, hlt, by simpa using this⟩
theorem grp_lens (l : List CellD) : (grp l).length ≤ l.length ∧ ∀ g ∈ grp l, g.length ≤ l.length := by
  have h := grp_flat l
  have hne : ∀ g ∈ grp l, 0 < g.length := by
    intro g hg
    have : ∀ (n : Nat) (l : List CellD), l.length ≤ n → ∀ g ∈ grp l, 0 < g.length := by
      intro n
      induction n with
      | zero => intro l hl g hg; obtain rfl := List.eq_nil_of_length_eq_zero (Nat.le_zero.1 hl); simp [grp] at hg
      | succ n ih =>
        intro l hl g hg
        cases l with
        | nil => simp [grp] at hg
        | cons c l =>
          rw [grp_cons] at hg
          rcases List.mem_cons.1 hg with rfl | hg
          · simp
          · refine ih _ ?_ g hg
            have := (List.dropWhile_sublist (l := l) (keqB c)).length_le
            simp at hl; omega
    exact this l.length l (Nat.le_refl _) g hg
  have key : ∀ gs : List (List CellD), (∀ g ∈ gs, 0 < g.length) → gs.length ≤ gs.flatten.length ∧ ∀ g ∈ gs, g.length ≤ gs.flatten.length := by
    intro gs
    induction gs with
    | nil => intro _; simp
    | cons g gs ih =>
      intro h
      obtain ⟨h1, h2⟩ := ih fun g' hg' => h g' (by simp [hg'])
      have h0 := h g (by simp)
      simp only [List.length_cons, List.flatten_cons, List.length_append]
      refine ⟨by omega, fun g' hg' => ?_⟩
      rcases List.mem_cons.1 hg' with rfl | hg'
      · omega
      · have := h2 g' hg'; omega
  have := key (grp l) hne
  rw [h] at this
  exact this
theorem seenT_sub {zs : List Int} : ∀ {l : List CellD} {top : Int}, (seenT zs top l).Sublist l := by
  intro l
  induction l with
  | nil => intro p; exact List.Sublist.refl _
  | cons c l ih =>
    intro p
    simp only [seenT]
    split
    · exact List.Sublist.cons_cons _ ih
    · simp only [List.nil_append]; exact List.Sublist.cons _ ih
theorem keepG_len (zs : List Int) (bottom : Bool) (gs : List (List CellD)) : (gs.flatMap (keepG zs bottom)).length ≤ gs.flatten.length := by
  induction gs with
  | nil => simp
  | cons g gs ih =>
    simp only [List.flatMap_cons, List.flatten_cons, List.length_append]
    have : (keepG zs bottom g).length ≤ g.length := ((trim_pre _ _).sublist.trans seenT_sub).length_le
    omega
theorem flat_take_le (gs : List (List CellD)) (k : Nat) : (gs.take k).flatten.length ≤ gs.flatten.length := by
  conv => rhs; rw [← List.take_append_drop k gs, List.flatten_append, List.length_append]
  omega
theorem own1 {W : World} {H base : Nat} {e : TypeId} {u : Value} (hW : W.heap[H]? = some (.cells #[u] e (0, 0))) (hb : base ≤ H) : W.ownsRow base e 1 (.slice (some ⟨H, 0, none⟩) 1 1) 1 [u] :=
  ⟨rfl, .inr ⟨H, 1, #[u], rfl, hb, hW, Nat.le_refl _, by decide, rfl, rfl⟩⟩
theorem flat_next2 {α β : Type} {f : α → List β} {l : List α} {k : Nat} (hk : k < l.length) : (l.take (k + 1)).flatMap f = (l.take k).flatMap f ++ f l[k] := by
  rw [take_next hk, List.flatMap_append]; simp
theorem flat_val (vs : List Value) : vs.flatMap (fun v => [v]) = vs := by induction vs with
  | nil => rfl
  | cons a l ih => simp [ih]
theorem atVal {w W : World} {A : Option Addr} {n c : Nat} {vs : List Value} (h : Rd w 1 (.slice A n c) vs.length vs) (hb : Below w.heap.size w W) {k : Nat} (hk : k < vs.length) :
    ∃ b off, A = some ⟨b, off, none⟩ ∧ b < w.heap.size ∧ W.cell? ⟨b, off + k, none⟩ = some vs[k] := by
  have h' : RdT w 1 (fun v => [v]) (.slice A n c) vs := by unfold RdT; rw [flat_val]; exact h
  obtain ⟨b, off, e, hlt, hc⟩ := h'.atB hb (fun _ => rfl) (by omega) hk
  have := hc 0 _ rfl
  exact ⟨b, off, e, hlt, by simpa using this⟩
set_option maxRecDepth 100000 in
set_option maxHeartbeats 2000000 in
theorem Keep_calls (l : List CellD) (looks : List Int) (bottom : Bool) (v vz : Value) (w : World) (hv : RdT w 4 cellC v l) (hz : RdT w 1 intC vz looks) (hl : l.length ≤ 100000) (hzl : looks.length ≤ 100000) :
    Calls Try.prog 8 #[v, vz, .bool bottom] w (KeepPost w (keepR l looks bottom)) := by
  have hR : keepR l looks bottom = if rightL l then (keepL l looks bottom, 0) else ([], 2) := rfl
  have hRK := fun h => keepG_keepL (l := l) h looks bottom
  generalize keepR l looks bottom = R at *
  generalize keepL l looks bottom = KL at *
  have KR := right_calls l v w hv
  have HV := Lib.hid hv
  obtain ⟨A, c, rfl, hnc, hcm⟩ := hv.len
  have HZ := Lib.hid hz
  obtain ⟨Az, cz, rfl, hnz, hcz⟩ := hz.len
  rcases hr : rightL l with _ | _
  · rw [hr] at hR KR
    replace hR := Lib.hid hR
    replace KR := Lib.hid KR
    clear hRK hr hv hz
    go_enter Try.func8, Try.ntmps8
    go_wp2_with (go_at_call 28; refine KR.out.mono ?_; rintro e w1 ⟨rfl, hb1⟩)
    go_ret2
    rw [hR.out]
    exact ⟨_, rfl, World.ownsRow_nil _ _ _ _, hb1⟩
  · rw [hr] at hR KR
    have hRK2 := Lib.hid (hRK hr)
    replace hR := Lib.hid hR
    replace KR := Lib.hid KR
    clear hRK hr hv hz
    go_enter Try.func8, Try.ntmps8
    go_wp2_with (go_at_call 28; refine KR.out.mono ?_; rintro e w1 ⟨rfl, hb1⟩)
    have hs1 := hb1.size
    go_loopw [8, 20] (fun ov iv wr => ∃ k : Nat, k ≤ looks.length ∧ iv = .int .i64 (k : Int) ∧ wr.ownsRow w.heap.size 3 1 ov (k + 1) ((maxSeq :: (looks.take k).map (fun n => min n maxSeq)).flatMap intC) ∧ Hid (Below w.heap.size w wr))
      (fun _ iv _ => looks.length - (intOf iv).toNat)
    case atStart => exact ⟨0, Nat.zero_le _, rfl, own1 (new_at rfl) hs1, hb1.alloc hs1 _⟩
    case round =>
      obtain ⟨k, hk, rfl, hown, hb⟩ := hrel
      have hsz := hb.out.size
      by_cases hkl : k < looks.length
      · have hkl' : (k : Int) < looks.length := by omega
        have h0 : (0 : Int) ≤ k := by omega
        obtain ⟨b, off, hA, hblt, c0⟩ := atInt HZ.out hb.out hkl
        subst hA
        have hnx : (maxSeq :: (looks.take (k + 1)).map (fun n => min n maxSeq)).flatMap intC = (maxSeq :: (looks.take k).map (fun n => min n maxSeq)).flatMap intC ++ [.int .i64 (min looks[k] maxSeq)] := by
          rw [take_next hkl, List.map_append, ← List.cons_append, List.flatMap_append]; rfl
        generalize looks[k] = z at *
        replace hnx := Lib.hid hnx
        generalize hms : (maxSeq :: (looks.take k).map (fun n => min n maxSeq)).flatMap intC = ms at *
        clear hms
        go_wp2_with (at_builtin; refine wpL_app et_int (.tmp 24) (.tmp 27) rfl rfl (hown.alloc _) rfl rfl (src_one (u := .int .i64 (min z maxSeq)) Try.underlying23 rfl rfl rfl) (by omega) (by simp; omega) ?_; intro v1 w2 hown1 hg1 hat1)
        go_roundw
        case rel => exact ⟨k + 1, by omega, by go_num, own_cast hown1 rfl hnx.out.symm, below_app (hb.out.alloc hsz _) hg1 (hown.alloc _) (Nat.le_refl _) (by simp; omega)⟩
        case measure => simp [intOf]; omega
      · obtain rfl : k = looks.length := by omega
        rw [List.take_length] at hown
        have hcl : (capL looks).length = looks.length + 1 := by simp [capL]
        have hownc : wr.ownsRow w.heap.size 3 1 u8 (capL looks).length ((capL looks).flatMap intC) := own_cast hown hcl.symm rfl
        have hne : srt (capL looks) ≠ [] := fun h => by have := srt_len (capL looks); rw [h, hcl] at this; simp at this
        have hso := srt_sorted (capL looks)
        have hsl := srt_len (capL looks)
        have KS := Sort_calls (capL looks) u8 wr w.heap.size hownc (fun h => by rw [h] at hcl; simp at hcl) (by omega)
        have hK := hRK2.out
        obtain ⟨zs, hzs⟩ : ∃ zs, srt (capL looks) = zs := ⟨_, rfl⟩
        rw [hzs] at KS hne hso hsl hK
        rw [hcl] at hsl KS hownc
        obtain ⟨A8, c8, rfl, hs81, hs82⟩ : ∃ A8 c8, u8 = .slice A8 (looks.length + 1) c8 ∧ looks.length + 1 ≤ c8 ∧ c8 ≤ 9223372036854775807 := by
          obtain ⟨A2, c2, hov, h1, h2, _⟩ := Rd.of_own hownc
          exact ⟨A2, c2, hov, h1, h2⟩
        replace KS := Lib.hid KS
        replace hK := Lib.hid hK
        replace hne := Lib.hid hne
        replace hso := Lib.hid hso
        replace hsl := Lib.hid hsl
        clear hzs hcl hRK2 hb1 hs1
        have hownd := Lib.hid hownc
        clear hownc hown
        go_wp2_with (go_at_call 29; refine KS.out.mono ?_; rintro e w2 ⟨rfl, hown2, hg2⟩)
        have hb2 : Below w.heap.size w w2 := below_app hb.out hg2 hownd.out (Nat.le_refl _) hsz
        refine (keys_calls l _ w2 (HV.out.below hb2) (by omega)).mono ?_
        rintro e w3 ⟨vk, vs, rfl, hownk, hrl, hb3⟩
        have hb3' := hb2.trans (hb3.mono hb2.size)
        have hz3 : RdT w3 1 intC (.slice A8 (looks.length + 1) c8) zs := by
          have h := Rd.of_own (own_below hown2 hb3 (Nat.le_refl _))
          unfold RdT; rw [hsl.out]; exact h
        have hlens := grp_lens l
        have hsp := grp_flat l
        obtain ⟨gs, hgs⟩ : ∃ gs, grp l = gs := ⟨_, rfl⟩
        rw [hgs] at hrl hK hlens hsp
        have hkl2 := fun k => Nat.le_trans (keepG_len zs bottom (gs.take k)) (Nat.le_trans (flat_take_le gs k) (by rw [hsp]; exact Nat.le_refl _))
        have hVK := Rd.of_own hownk
        have hvl := hrl.1
        obtain ⟨Ak, ck, rfl, hsk1, hsk2⟩ : ∃ Ak ck, vk = .slice Ak vs.length ck ∧ vs.length ≤ ck ∧ ck ≤ 9223372036854775807 := by
          obtain ⟨A2, c2, hov, h1, h2, _⟩ := hVK
          exact ⟨A2, c2, hov, h1, h2⟩
        have hrl3 := Lib.hid (hrl.below hb3)
        replace hkl2 := Lib.hid hkl2
        replace hVK := Lib.hid hVK
        have hlens1 := hlens.1
        replace hlens := Lib.hid hlens
        replace hvl := Lib.hid hvl
        replace hz3 := Lib.hid hz3
        replace hb3' := Lib.hid hb3'
        have hcap3 := hb3'.out.size
        clear hgs hsp hownk hrl hb3 hb2 hown2 hg2 hb hsz KS hownd
        go_wp2_with fail
        go_loopw [11, 35] (fun ov iv wr => ∃ k : Nat, k ≤ vs.length ∧ iv = .int .i64 (k : Int) ∧ wr.ownsRow w3.heap.size 35 4 ov ((gs.take k).flatMap (keepG zs bottom)).length (((gs.take k).flatMap (keepG zs bottom)).flatMap cellC) ∧ Hid (Below w3.heap.size w3 wr))
          (fun _ iv _ => vs.length - (intOf iv).toNat)
        case atStart => exact ⟨0, Nat.zero_le _, rfl, World.ownsRow_nil _ _ _ _, Below.refl _ _⟩
        case round =>
          obtain ⟨k, hk, rfl, hown, hb⟩ := hrel
          obtain ⟨wo, rfl⟩ : ∃ wo : World, wo = wr := ⟨_, rfl⟩
          have hbw := hb3'.out.trans (hb.out.mono hcap3)
          have hsz := hbw.size
          by_cases hkl : k < vs.length
          · have hkl' : (k : Int) < vs.length := by omega
            have h0 : (0 : Int) ≤ k := by omega
            have hkg : k < gs.length := by have := hvl.out; omega
            obtain ⟨b, off, hA, hblt, c0⟩ := atVal hVK.out hb.out hkl
            subst hA
            have hrd := hrl3.out.2 k _ _ (List.getElem?_eq_getElem hkl) (List.getElem?_eq_getElem hkg)
            have hgl := hlens.out.2 gs[k] (List.getElem_mem _)
            have hnx : (gs.take (k + 1)).flatMap (keepG zs bottom) = (gs.take k).flatMap (keepG zs bottom) ++ keepG zs bottom gs[k] := flat_next2 hkg
            have hl1 := hkl2.out k
            have hl2 := hkl2.out (k + 1)
            rw [hnx, List.length_append] at hl2
            have KO := fun W (hW : Below w3.heap.size w3 W) => one_calls gs[k] zs bottom vs[k] (.slice A8 (looks.length + 1) c8) W (hrd.below hW) (hz3.out.below hW) hne.out hso.out (by omega) (by have := hsl.out; omega)
            generalize vs[k] = vv at *
            generalize gs[k] = g at *
            generalize keepG zs bottom g = r at *
            generalize (gs.take k).flatMap (keepG zs bottom) = acc at *
            obtain ⟨Av, cv, rfl, hv1, hv2⟩ := hrd.len
            replace hnx := Lib.hid hnx
            replace KO := Lib.hid KO
            replace hrd := Lib.hid hrd
            go_wp2_with fail
            refine (KO.out _ hb.out).mono ?_
            rintro e w4 ⟨v4, rfl, hown4, hb4⟩
            have hownA := own_below hown hb4 (Nat.le_refl w3.heap.size)
            have hbw4 := hbw.trans (hb4.mono hsz)
            have hsrc := Rd.src (P := Try.prog) (Rd.of_own hown4) (cells_one r) Try.underlying22
            have hb4' := hb.out.trans (hb4.mono hb.out.size)
            have hsz4 := hb4'.size
            replace hown4 := Lib.hid hown4
            replace hbw4 := Lib.hid hbw4
            replace hb4' := Lib.hid hb4'
            go_wp2_with (at_builtin; refine wpL_app et_cell (.tmp 39) (.tmp 43) rfl rfl hownA rfl rfl hsrc (by omega) hsz4 ?_; intro v5 w5 hown5 hg5 hat5)
            go_roundw
            case rel => exact ⟨k + 1, by omega, by go_num, own_cast hown5 (by rw [hnx.out]; simp) (by rw [hnx.out]; simp), below_app hb4'.out hg5 hownA (Nat.le_refl _) hsz4⟩
            case measure => simp [intOf]; omega
          · obtain rfl : k = vs.length := by omega
            have hfin : (gs.take vs.length).flatMap (keepG zs bottom) = KL := by rw [hvl.out, List.take_length]; exact hK.out
            rw [hfin] at hown
            have hownF := own_below hown (Below.refl _ _) hcap3
            obtain ⟨A9, c9, rfl, _, _⟩ : ∃ A9 c9, u11 = .slice A9 KL.length c9 ∧ True ∧ True := by
              obtain ⟨A2, c2, hov, _⟩ := Rd.of_own hown
              exact ⟨A2, c2, hov, trivial, trivial⟩
            replace hownF := Lib.hid hownF
            replace hfin := Lib.hid hfin
            replace hown := Lib.hid hown
            go_wp2_with fail
            go_ret2
            rw [hR.out]
            exact ⟨_, rfl, hownF.out, hbw⟩
end Go.Proofs.Yticplbnnmajcpaa
