/- Files that a crash may cut: what Go's library answers (maps.Clone, bytes.Clone, strings.Trim, slices.Sorted of maps.Keys), for the walk over a heap. -/
import Derived.Test.YtjmafbdakalknaaDoorHvTab
import Derived.Test.YtjmafbdakalknaaDoorHvNew
import Derived.Test.YtjmafbdakalknaaDoorHvMap
import Derived.Shelf.SlMaps.Clone
import Derived.Ground.SlmcProg
import Derived.Shelf.SlIter.Nil
import Derived.Ground.GgzProg
import Derived.Shelf.SortM.Plain
import Derived.Shelf.SortM.SortNone
import Derived.Ground.SlgmProg
import Derived.Shelf.Bytes.SlClone
import Derived.Ground.SlbCloneProg
import Derived.Shelf.Strings.SlTrimAscii
import Derived.Ground.NamesProg
import Derived.Shelf.Lay
set_option linter.unusedVariables false
set_option linter.unusedSimpArgs false
namespace Go.Proofs.YtjmafbdakalknaaDoor
open Go Go.RowKit Go.Shelf Hv

shelf_lay_g SlLaysW.n5 Slmc 5 at Tryd 37 as Tryd.cloneM
shelf_lay_g SlLaysZ.n7 Ggz 7 at Tryd 40 as Tryd.keysL
shelf_lay_g SlLaysZ.n6 Ggz 6 at Tryd 39 as Tryd.sortedL
shelf_lay_g SlLaysM.n6 Slgm 6 at Tryd 58 as Tryd.sortL
shelf_lay Lays.n160 Nm 160 at Tryd as Tryd.trimL
shelf_lay SlLaysK.n4 Slk 4 at Tryd as Tryd.cloneB
/-- strings.Trim at a constant cutset. -/
theorem trim_h (s cs : ByteArray) (hs : s.size ≤ 9223372036854775807) (hc : cs.size < 4294967281) (ha : ∀ (j : Nat) b, cs.data.toList[j]? = some b → b.toNat < 128) :
    Hv.ACalls Tryd.prog 55 [.lit (.string s), .lit (.string cs)] (.lit (.string ⟨(Lib.trimS s.data.toList cs.data.toList).toArray⟩)) := by
  refine ⟨by kernel_rfl, fun w W gb vs hW hlen hrep => ?_⟩
  match vs, hlen with
  | [v0, v1], _ =>
    obtain rfl := rep_lit (hrep 0 _ v0 rfl rfl)
    obtain rfl := rep_lit (hrep 1 _ v1 rfl rfl)
    exact (Any.strings_Trim_laid Tryd.trimL (by kernel_rfl) s cs w hs hc ha).mono fun e w' ⟨he, hb⟩ => ⟨_, he, .lit _, hb⟩
/-- maps.Clone: a new map with the same entries. -/
theorem mapsClone_h {H : Hp} {n mid clock : Nat} {es : List ME} (ho : H mid = some (.map es clock)) :
    HCalls Tryd.prog 37 [.mp mid] H n fun r H' n' => r = .mp n ∧ H' = upd H n (some (.map es clock)) ∧ n' = n + 1 := by
  refine ⟨by kernel_rfl, fun w F gb vs hok hlen hrep => ?_⟩
  match vs, hlen with
  | [v0], _ =>
    have r0 := hrep 0 _ v0 rfl rfl
    cases r0 with
    | mp _ g size hg =>
      rcases hok.live mid _ ho with ⟨g', size', hg', ents, hb, hel, hent⟩ | ⟨_, m, e, he⟩
      · rw [hg] at hg'
        injection hg' with hg'
        injection hg' with e1 e2
        subst e1 e2
        refine (AnyW.maps_Clone Tryd.cloneM g ents clock w hb).mono fun e w' ⟨he, hw⟩ => ?_
        subst he hw
        obtain ⟨b1, b2, b3⟩ := alloc_below w (.map ents clock)
        refine done_newAt (oo := .map es clock) (gg := w.heap.size) (size := 0) hok b1 (Nat.le_refl _) b2 ⟨ents, b3, hel, fun j e x hj hx => ?_⟩ ⟨rfl, rfl, rfl⟩ (.mp _ _ _ (gbn_at _ _ _))
        obtain ⟨q1, q2, q3⟩ := hent j e x hj hx
        exact ⟨q1, q2.keep (freshAt_keep hok b1 (Nat.le_refl _)) (gbn_ext hok _), q3.keep (freshAt_keep hok b1 (Nat.le_refl _)) (gbn_ext hok _)⟩
      · cases he
def u8C (b : UInt8) : List Value := [.int .u8 b.toNat]
def byL (l : List UInt8) : List (List AV) := l.map byteA
theorem szOf_u8 : szOf Tryd.prog 5 = 1 := by unfold szOf; kernel_rfl
theorem byL_len (l : List UInt8) : (byL l).length = l.length := List.length_map ..
theorem byL_flat (l : List UInt8) : (byL l).flatten = l.map fun b => AV.lit (.int .u8 b.toNat) := by
  unfold byL
  induction l with
  | nil => rfl
  | cons a l ih => rw [List.map_cons, List.flatten_cons, ih]; rfl
theorem u8_map (l : List UInt8) : (l.map fun b => (b.toNat : Int)).map (Value.int .u8) = l.flatMap u8C := by
  induction l with
  | nil => rfl
  | cons a l ih => rw [List.map_cons, List.map_cons, ih]; rfl
/-- bytes.Clone: a new row of the same bytes. -/
theorem bytesClone_h {H : Hp} {n : Nat} {x : AV} {l : List UInt8} (hx : x.its? H = some (byL l)) (hl : l.length ≤ 1000000000) :
    HCalls Tryd.prog 42 [x] H n fun r H' n' => (r = .lit (.slice none 0 0) ∧ l = [] ∧ H' = H ∧ n' = n) ∨ (r = .rw n 1 0 l.length ∧ H' = upd H n (some (.row true 5 (byL l))) ∧ n' = n + 1) := by
  refine ⟨by kernel_rfl, fun w F gb vs hok hlen hrep => ?_⟩
  match vs, hlen with
  | [v0], _ =>
    obtain ⟨sz, A, c, b, off, val, hi, rfl, hlc, hcm, hA, hcell⟩ := rep_its hok (hrep 0 _ v0 rfl rfl) hx
    rw [byL_len] at hlc ⊢
    cases A with
    | none =>
      have hl0 : l = [] := by
        cases l with
        | nil => rfl
        | cons a l => have := hA (by simp [byL]); cases this
      subst hl0
      exact (Any.bytes_Clone_nil Tryd.cloneB _ _ w).mono fun e w' ⟨he, hw⟩ => by
        subst he hw
        exact done_less hok (Below.refl _ _) (.inl ⟨rfl, rfl, rfl, rfl⟩) (.lit _)
    | some ad =>
      refine (Any.bytes_Clone_at Tryd.cloneB ad l.length c (l.map fun b => (b.toNat : Int)) w (List.length_map ..) (by omega) (fun i hi => ?_)).mono fun e w' ⟨v', he, hrow, hnn, hb⟩ => ?_
      · have hne : byL l ≠ [] := by intro h; have := congrArg List.length h; rw [byL_len] at this; simp only [List.length_nil] at this; omega
        have := hA hne
        injection this with this
        subst this
        have h1 : (byL l).flatten[i]? = some (.lit (.int .u8 (l[i].toNat))) := by rw [byL_flat, List.getElem?_map, List.getElem?_eq_getElem hi]; rfl
        obtain ⟨e1, _, e2⟩ := hcell i _ h1
        have e3 := rep_lit e2
        rw [e3] at e1
        have ea : (⟨b, off, none⟩ : Addr).add i = ⟨b, off + i, none⟩ := by simp [Addr.add]
        rw [ea, e1, List.getD_eq_getElem?_getD, List.getElem?_map, List.getElem?_eq_getElem hi]; rfl
      · subst he
        have hmp := u8_map l
        rw [hmp] at hrow
        exact done_ownsRow (enc := u8C) (m := true) hok hb (fun _ => rfl) (fun x u hu => by simp only [u8C, List.mem_singleton] at hu; subst hu; rfl) szOf_u8 (by simp only [maxLen]; omega) hrow (fun h _ => absurd h hnn) (.inr ⟨rfl, rfl, rfl⟩)
/-! ### slices.Sorted(maps.Keys(m)) -/
theorem keysOf_h {H : Hp} {n mid : Nat} : HCalls Tryd.prog 40 [.mp mid] H n fun r H' n' => r = .fn 59 [.ptr n 0] ∧ H' = upd H n (some (.cells [.mp mid])) ∧ n' = n + 1 := by
  refine ⟨by kernel_rfl, fun w F gb vs hok hlen hrep => ?_⟩
  match vs, hlen with
  | [v0], _ =>
    have r0 := hrep 0 _ v0 rfl rfl
    cases r0 with
    | mp _ g size hg =>
      have cK := AnyZ.keys_in Tryd.keysL Fence.wide 5 trivial rfl (some g) w
      refine ((callsIn_wide (n := 5)).1 cK).mono fun e w' ⟨he, hw⟩ => ?_
      subst he hw
      obtain ⟨b1, b2, b3⟩ := alloc_below w (.cells #[.map (some g)] 68)
      refine done_newAt (oo := .cells [.mp mid]) (gg := w.heap.size) (size := 1) hok b1 (Nat.le_refl _) b2 ⟨#[.map (some g)], _, (0, 0), b3, cold0 _, rfl, ⟨rfl, fun u hu => ?_, fun j c u hj hu => ?_⟩⟩ ⟨rfl, rfl, rfl⟩ ?_
      · simp only [List.mem_singleton] at hu; subst hu; rfl
      · cases j with
        | zero =>
          simp only [List.getElem?_cons_zero, Option.some.injEq] at hj hu
          subst hj hu
          exact .mp _ g size (gbn_ext hok _ _ _ hg)
        | succ j => simp at hj
      · refine .fn _ [.ptr n 0] [.pointer (some ⟨w.heap.size, 0, none⟩)] rfl fun j c u hj hu => ?_
        cases j with
        | zero =>
          simp only [List.getElem?_cons_zero, Option.some.injEq] at hj hu
          subst hj hu
          exact .ptr _ 0 _ 1 (gbn_at _ _ _)
        | succ j => simp at hj
end Go.Proofs.YtjmafbdakalknaaDoor
