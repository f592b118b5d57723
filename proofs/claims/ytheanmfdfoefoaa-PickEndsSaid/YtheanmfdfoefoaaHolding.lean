/- edit.Holding: the tables that hold a key. -/
import Derived.Test.YtheanmfdfoefoaaHold
import Derived.Test.YtheanmfdfoefoaaCovDoc
import Derived.Test.YtheanmfdfoefoaaPickNext
namespace Go.Proofs.Ytheanmfdfoefoaa
open Go Go.RowKit

def lvH (s : StD) (n : Nat) : List MetaD := if n = 0 then (s.lv 0).reverse else s.lv n
def holdTo (s : StD) (key : ByteArray) : Nat → List MetaD
  | 0 => []
  | n + 1 => holdTo s key n ++ (lvH s n).filter (holdsB key)
theorem holdTo_all (s : StD) (key : ByteArray) : holdTo s key 4 = holdL s key := by
  simp [holdTo, holdL, lvH]
theorem holdTo_len (s : StD) (key : ByteArray) (h : ∀ n, n < 4 → (s.lv n).length ≤ 100000) : ∀ n, n ≤ 4 → (holdTo s key n).length ≤ n * 100000 := by
  intro n
  induction n with
  | zero => intro _; simp [holdTo]
  | succ n ih =>
    intro hn
    have h1 := ih (by omega)
    have h2 : (lvH s n).length ≤ 100000 := by
      unfold lvH; split
      · rw [List.length_reverse]; exact h 0 (by omega)
      · exact h n (by omega)
    have h3 := List.length_filter_le (holdsB key) (lvH s n)
    simp only [holdTo, List.length_append]
    omega
theorem idxE (v0 v1 v2 v3 : Value) (w : World) :
    (Instr.index 31 (.agg #[v0, v1, v2, v3]) (.int .i64 0)).run Try.prog w = .ok v0 w ∧ (Instr.index 31 (.agg #[v0, v1, v2, v3]) (.int .i64 1)).run Try.prog w = .ok v1 w ∧
    (Instr.index 31 (.agg #[v0, v1, v2, v3]) (.int .i64 2)).run Try.prog w = .ok v2 w ∧ (Instr.index 31 (.agg #[v0, v1, v2, v3]) (.int .i64 3)).run Try.prog w = .ok v3 w :=
  ⟨by kernel_rfl, by kernel_rfl, by kernel_rfl, by kernel_rfl⟩
set_option maxRecDepth 100000 in
set_option maxHeartbeats 1000000 in
theorem Holding_calls (s : StD) (f : Nat → Value) (key : ByteArray) (w : World) (hf : RdLv w f s) (hl : ∀ n, n < 4 → (s.lv n).length ≤ 100000) :
    Calls Try.prog 24 #[.agg #[.int .i64 s.log, .int .i64 s.next, .int .i64 s.seq, f 0, f 1, f 2, f 3], .string key] w fun e w' => ∃ v', e = .returned v' ∧ w'.ownsRow w.heap.size 51 4 v' (holdL s key).length ((holdL s key).flatMap metaC) ∧ Below w.heap.size w w' := by
  have HF := Lib.hid hf
  have HL := Lib.hid hl
  have HT := Lib.hid (holdTo_len s key hl)
  obtain ⟨A0, c0, e0, _, _⟩ := (hf 0 (by omega)).len
  obtain ⟨A1, c1, e1, _, _⟩ := (hf 1 (by omega)).len
  obtain ⟨A2, c2, e2, _, _⟩ := (hf 2 (by omega)).len
  obtain ⟨A3, c3, e3, _, _⟩ := (hf 3 (by omega)).len
  have H0 := hf 0 (by omega); have H1 := hf 1 (by omega); have H2 := hf 2 (by omega); have H3 := hf 3 (by omega)
  rw [e0] at H0; rw [e1] at H1; rw [e2] at H2; rw [e3] at H3
  rw [e0, e1, e2, e3]
  clear hf hl e0 e1 e2 e3 HF
  replace H0 := Lib.hid H0; replace H1 := Lib.hid H1; replace H2 := Lib.hid H2; replace H3 := Lib.hid H3
  go_enter Try.func24, Try.ntmps24
  go_wp2_with fail
  go_loopw [5, 12] (fun ov iv wr => ∃ k : Nat, k ≤ 4 ∧ iv = .int .i64 (k : Int) ∧ Hid (wr.ownsRow w.heap.size 51 4 ov (holdTo s key k).length ((holdTo s key k).flatMap metaC)) ∧ Hid (Below w.heap.size w wr) ∧ Hid (k = 0 → ov = .slice none 0 0))
    (fun _ iv _ => 4 - (intOf iv).toNat)
  case atStart => exact ⟨0, by omega, rfl, World.ownsRow_nil _ _ _ _, (Below.refl _ _).alloc (Nat.le_refl _) _, fun _ => rfl⟩
  case round =>
    obtain ⟨k, hk, rfl, hown, hb, hn0⟩ := hrel
    obtain ⟨wo, rfl⟩ : ∃ wo : World, wo = wr := ⟨_, rfl⟩
    have hsz := hb.out.size
    obtain rfl | rfl | rfl | rfl | rfl : k = 0 ∨ k = 1 ∨ k = 2 ∨ k = 3 ∨ k = 4 := by omega
    case' inl =>
      have h0l := HL.out 0 (by omega)
      have hn1 := hn0.out rfl
      subst hn1
      clear hn0
      have hi := fun W => (idxE (.slice A0 (s.lv 0).length c0) (.slice A1 (s.lv 1).length c1) (.slice A2 (s.lv 2).length c2) (.slice A3 (s.lv 3).length c3) W).1
      go_wp2_with fail
      refine (Clone_calls (s.lv 0) _ wo (H0.out.below hb.out) (by omega)).mono ?_
      rintro e w1 ⟨v1, rfl, ho1, hb1⟩
      go_wp2_with fail
      refine (Reverse_calls (s.lv 0) v1 w1 wo.heap.size ho1 (by omega)).mono ?_
      rintro e w2 ⟨rfl, ho2, hb2⟩
      have hbb := hb.out.trans ((hb2 _ _ hb1 (Nat.le_refl _)).mono hsz)
      have hL : RdT w2 4 metaC v1 (s.lv 0).reverse := by have := Rd.of_own ho2; unfold RdT; rwa [List.length_reverse]
      clear hb ho1 ho2 hb1 hb2 hsz
      obtain ⟨L, hLe⟩ : ∃ L, L = (s.lv 0).reverse := ⟨_, rfl⟩
      have hLlen : L.length ≤ 100000 := by rw [hLe, List.length_reverse]; exact h0l
      rw [← hLe] at hL
      have hnx : Hid (holdTo s key 1 = holdTo s key 0 ++ L.filter (holdsB key)) := by show _ = _; rw [hLe]; rfl
      have hle := HT.out 0 (by omega)
      have hown0 : Hid (∀ W : World, W.ownsRow W.heap.size 51 4 (.slice none 0 0) (holdTo s key 0).length ((holdTo s key 0).flatMap metaC)) := fun W => World.ownsRow_nil _ _ _ _
      clear hown
      generalize holdTo s key 0 = acc at *
      clear hLe h0l
      obtain ⟨A, c, rfl, hnc, hcm⟩ := hL.len
      obtain ⟨W, rfl⟩ : ∃ W : World, W = w2 := ⟨_, rfl⟩
      replace hbb := Lib.hid hbb
      obtain ⟨bs, hbs1, hbs2, hown2, hLB⟩ : ∃ bs, w.heap.size ≤ bs ∧ bs ≤ W.heap.size ∧ Hid (W.ownsRow bs 51 4 (.slice none 0 0) acc.length (acc.flatMap metaC)) ∧ Hid (∀ wr, Below bs W wr → RdT wr 4 metaC (.slice A L.length c) L) :=
        ⟨W.heap.size, hbb.out.size, Nat.le_refl _, hown0.out W, fun wr h => RdT.below hL h⟩
      clear hL
      go_wp2_with fail
    case' inr.inl =>
      have hbb := hb
      have hown2 := hown
      have hL := Lib.hid (H1.out.below hb.out)
      have hLlen := HL.out 1 (by omega)
      obtain ⟨A, c, e, hnc, hcm⟩ := hL.out.len
      injection e with e1 _ e2; subst e1 e2
      have hnx : Hid (holdTo s key 2 = holdTo s key 1 ++ (s.lv 1).filter (holdsB key)) := rfl
      have hle := HT.out 1 (by omega)
      generalize holdTo s key 1 = acc at *
      clear hb hown hsz
      have hi := fun W => (idxE (.slice A0 (s.lv 0).length c0) (.slice A1 (s.lv 1).length c1) (.slice A2 (s.lv 2).length c2) (.slice A3 (s.lv 3).length c3) W).2.1
      generalize s.lv 1 = L at *
      obtain ⟨W, rfl⟩ : ∃ W : World, W = wo := ⟨_, rfl⟩
      obtain ⟨bs, hbs1, hbs2, hown2, hLB⟩ : ∃ bs, w.heap.size ≤ bs ∧ bs ≤ W.heap.size ∧ Hid (W.ownsRow bs 51 4 u5 acc.length (acc.flatMap metaC)) ∧ Hid (∀ wr, Below bs W wr → RdT wr 4 metaC (.slice A1 L.length c1) L) :=
        ⟨w.heap.size, Nat.le_refl _, hbb.out.size, hown2, fun wr h => H1.out.below (hbb.out.trans h)⟩
      clear hL
      go_wp2_with fail
    case' inr.inr.inl =>
      have hbb := hb
      have hown2 := hown
      have hL := Lib.hid (H2.out.below hb.out)
      have hLlen := HL.out 2 (by omega)
      obtain ⟨A, c, e, hnc, hcm⟩ := hL.out.len
      injection e with e1 _ e2; subst e1 e2
      have hnx : Hid (holdTo s key 3 = holdTo s key 2 ++ (s.lv 2).filter (holdsB key)) := rfl
      have hle := HT.out 2 (by omega)
      generalize holdTo s key 2 = acc at *
      clear hb hown hsz
      have hi := fun W => (idxE (.slice A0 (s.lv 0).length c0) (.slice A1 (s.lv 1).length c1) (.slice A2 (s.lv 2).length c2) (.slice A3 (s.lv 3).length c3) W).2.2.1
      generalize s.lv 2 = L at *
      obtain ⟨W, rfl⟩ : ∃ W : World, W = wo := ⟨_, rfl⟩
      obtain ⟨bs, hbs1, hbs2, hown2, hLB⟩ : ∃ bs, w.heap.size ≤ bs ∧ bs ≤ W.heap.size ∧ Hid (W.ownsRow bs 51 4 u5 acc.length (acc.flatMap metaC)) ∧ Hid (∀ wr, Below bs W wr → RdT wr 4 metaC (.slice A2 L.length c2) L) :=
        ⟨w.heap.size, Nat.le_refl _, hbb.out.size, hown2, fun wr h => H2.out.below (hbb.out.trans h)⟩
      clear hL
      go_wp2_with fail
    case' inr.inr.inr.inl =>
      have hbb := hb
      have hown2 := hown
      have hL := Lib.hid (H3.out.below hb.out)
      have hLlen := HL.out 3 (by omega)
      obtain ⟨A, c, e, hnc, hcm⟩ := hL.out.len
      injection e with e1 _ e2; subst e1 e2
      have hnx : Hid (holdTo s key 4 = holdTo s key 3 ++ (s.lv 3).filter (holdsB key)) := rfl
      have hle := HT.out 3 (by omega)
      generalize holdTo s key 3 = acc at *
      clear hb hown hsz
      have hi := fun W => (idxE (.slice A0 (s.lv 0).length c0) (.slice A1 (s.lv 1).length c1) (.slice A2 (s.lv 2).length c2) (.slice A3 (s.lv 3).length c3) W).2.2.2
      generalize s.lv 3 = L at *
      obtain ⟨W, rfl⟩ : ∃ W : World, W = wo := ⟨_, rfl⟩
      obtain ⟨bs, hbs1, hbs2, hown2, hLB⟩ : ∃ bs, w.heap.size ≤ bs ∧ bs ≤ W.heap.size ∧ Hid (W.ownsRow bs 51 4 u5 acc.length (acc.flatMap metaC)) ∧ Hid (∀ wr, Below bs W wr → RdT wr 4 metaC (.slice A3 L.length c3) L) :=
        ⟨w.heap.size, Nat.le_refl _, hbb.out.size, hown2, fun wr h => H3.out.below (hbb.out.trans h)⟩
      clear hL
      go_wp2_with fail
    case inr.inr.inr.inr =>
      obtain ⟨A2, c2, hov, _, _, _, _⟩ := Rd.of_own hown.out
      have hown' := hown.out
      rw [hov] at hown'
      subst hov
      go_wp2_with fail
      go_ret
      rw [holdTo_all] at hown'
      exact ⟨_, by rw [← holdTo_all]; rfl, hown', hb.out⟩
    all_goals
      clear hi
      go_loopw [5, 24] (fun ov iv wr => ∃ q : Nat, q ≤ L.length ∧ iv = .int .i64 (q : Int) ∧ wr.ownsRow bs 51 4 ov (acc ++ (L.take q).filter (holdsB key)).length ((acc ++ (L.take q).filter (holdsB key)).flatMap metaC) ∧ Below bs W wr)
        (fun _ iv _ => L.length - (intOf iv).toNat)
      case atStart => exact ⟨0, Nat.zero_le _, rfl, own_cast hown2.out (by simp) (by simp), Below.refl _ _⟩
      case round =>
        clear hown2
        obtain ⟨q, hq, rfl, hown, hb⟩ := hrel
        have hsz : bs ≤ wr.heap.size := Nat.le_trans hbs2 hb.size
        by_cases hql : q < L.length
        · have hql' : (q : Int) < L.length := by omega
          have h0 : (0 : Int) ≤ q := by omega
          obtain ⟨b, off, m, hA, hblt, hm, c0, c1, p2, c3⟩ := atMeta (hLB.out _ hb) (Below.refl _ _) hql
          subst hA
          have hw : (L.take (q + 1)).filter (holdsB key) = (L.take q).filter (holdsB key) ++ if holdsB key m then [m] else [] := by
            rw [filter_next hql, hm.out]
          have hle2 : ((L.take q).filter (holdsB key)).length ≤ q := Nat.le_trans (List.length_filter_le _ _) (by simp; omega)
          have hle3 : (acc ++ (L.take q).filter (holdsB key)).length ≤ 500000 := by rw [List.length_append]; omega
          have hw2 : acc ++ (L.take (q + 1)).filter (holdsB key) = (acc ++ (L.take q).filter (holdsB key)) ++ if holdsB key m then [m] else [] := by rw [hw, List.append_assoc]
          clear hw hle2
          replace hw2 := Lib.hid hw2
          generalize acc ++ (L.take q).filter (holdsB key) = ac2 at *
          have ht : holdsB key m = ((Op.bytesLess m.first.toList key.toList || m.first.toList == key.toList) && (Op.bytesLess key.toList m.last.toList || key.toList == m.last.toList)) := rfl
          obtain ⟨b1, hb1⟩ : ∃ b1, (Op.bytesLess m.first.toList key.toList || m.first.toList == key.toList) = b1 := ⟨_, rfl⟩
          obtain ⟨b2, hb2⟩ : ∃ b2, (Op.bytesLess key.toList m.last.toList || key.toList == m.last.toList) = b2 := ⟨_, rfl⟩
          rw [hb1, hb2] at ht
          replace ht := Lib.hid ht
          replace hm := Lib.hid hm
          by_cases hyes : b1 = true ∧ b2 = true
          · obtain ⟨rfl, rfl⟩ := hyes
            go_wp2_with (at_builtin; refine wpL_app et_emeta (.tmp 38) (.tmp 40) rfl rfl ((hown.alloc _).alloc _) rfl rfl (src_blk (sz := 4) (cs := metaC m) (e := 51) (fr := (0, 0)) Try.underlying30 (new_at (by simp)) rfl (metaC_one _)) (by omega) (by simp; omega) ?_; intro v1 w1 hown1 hg1 hat1)
            go_roundw
            case rel => exact ⟨q + 1, by omega, by go_num, own_cast hown1 (by rw [hw2.out, ht.out]; simp) (by rw [hw2.out, ht.out]; simp), below_app ((hb.alloc hsz _).alloc (by simp; omega) _) hg1 ((hown.alloc _).alloc _) (Nat.le_refl _) (by simp; omega)⟩
            case measure => simp [intOf]; omega
          · have hno : Hid (holdsB key m = false) := by
              show _ = _
              rw [ht.out]
              cases b1 <;> cases b2 <;> simp_all
            have hnb : b1 = false ∨ (b1 = true ∧ b2 = false) := by cases b1 <;> cases b2 <;> simp_all
            clear hyes
            rcases hnb with rfl | ⟨rfl, rfl⟩
            all_goals
              go_wp2_with fail
              go_roundw
              case rel => exact ⟨q + 1, by omega, by go_num, own_cast (hown.alloc _) (by rw [hw2.out, hno.out]; simp) (by rw [hw2.out, hno.out]; simp), hb.alloc hsz _⟩
              case measure => simp [intOf]; omega
        · obtain rfl : q = L.length := by omega
          rw [List.take_length, ← hnx.out] at hown
          have hown := own_below hown (Below.refl _ _) hbs1
          have hb := hbb.out.trans (hb.mono hbs1)
          go_wp2_with fail
          go_roundw
          case rel => first | exact ⟨1, by omega, by go_num, hown, hb, fun h => by cases h⟩ | exact ⟨2, by omega, by go_num, hown, hb, fun h => by cases h⟩ | exact ⟨3, by omega, by go_num, hown, hb, fun h => by cases h⟩ | exact ⟨4, by omega, by go_num, hown, hb, fun h => by cases h⟩
          case measure => simp [intOf]
end Go.Proofs.Ytheanmfdfoefoaa
