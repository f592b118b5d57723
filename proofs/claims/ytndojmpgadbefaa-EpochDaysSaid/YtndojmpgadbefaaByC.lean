/- bytes.Clone, for the walk over a heap. -/
import Derived.Test.YtndojmpgadbefaaHvTab
import Derived.Test.YtndojmpgadbefaaHvNew
import Derived.Shelf.Bytes.SlClone
import Derived.Ground.SlbCloneProg
import Derived.Shelf.Lay
set_option linter.unusedVariables false
set_option linter.unusedSimpArgs false
namespace Go.Proofs.Ytndojmpgadbefaa
open Go Go.RowKit Go.Shelf Hv
shelf_lay SlLaysK.n4 Slk 4 at Try as Try.cloneB
def u8C (b : UInt8) : List Value := [.int .u8 b.toNat]
def byL (l : List UInt8) : List (List AV) := l.map byteA
theorem szOf_u8 : szOf Try.prog 5 = 1 := by unfold szOf; kernel_rfl
theorem byL_len (l : List UInt8) : (byL l).length = l.length := List.length_map ..
theorem byL_flat (l : List UInt8) : (byL l).flatten = l.map fun b => AV.lit (.int .u8 b.toNat) := by
  unfold byL
  induction l with
  | nil => rfl
  | cons a l ih => rw [List.map_cons, List.flatten_cons, ih]; rfl
theorem u8_map (l : List UInt8) : (l.map fun b => (b.toNat : Int)).map (Value.int .u8) = l.flatMap u8C := by
  induction l with
  | nil => rfl
  | cons a l ih => rw [List.map_cons, List.map_cons, ih]; rfl
/-- bytes.Clone: a new row of the same bytes. -/
theorem bytesClone_h {H : Hp} {n : Nat} {x : AV} {l : List UInt8} (hx : x.its? H = some (byL l)) (hl : l.length ≤ 1000000000) :
    HCalls Try.prog 62 [x] H n fun r H' n' => (r = .lit (.slice none 0 0) ∧ l = [] ∧ H' = H ∧ n' = n) ∨ (r = .rw n 1 0 l.length ∧ H' = upd H n (some (.row true 5 (byL l))) ∧ n' = n + 1) := by
  refine ⟨by kernel_rfl, fun w F gb vs hok hlen hrep => ?_⟩
  match vs, hlen with
  | [v0], _ =>
    obtain ⟨sz, A, c, b, off, val, hi, rfl, hlc, hcm, hA, hcell⟩ := rep_its hok (hrep 0 _ v0 rfl rfl) hx
    rw [byL_len] at hlc ⊢
    cases A with
    | none =>
      have hl0 : l = [] := by
        cases l with
        | nil => rfl
        | cons a l => have := hA (by simp [byL]); cases this
      subst hl0
      exact (Any.bytes_Clone_nil Try.cloneB _ _ w).mono fun e w' ⟨he, hw⟩ => by
        subst he hw
        exact done_less hok (Below.refl _ _) (.inl ⟨rfl, rfl, rfl, rfl⟩) (.lit _)
    | some ad =>
      refine (Any.bytes_Clone_at Try.cloneB ad l.length c (l.map fun b => (b.toNat : Int)) w (List.length_map ..) (by omega) (fun i hi => ?_)).mono fun e w' ⟨v', he, hrow, hnn, hb⟩ => ?_
      · have hne : byL l ≠ [] := by intro h; have := congrArg List.length h; rw [byL_len] at this; simp only [List.length_nil] at this; omega
        have := hA hne
        injection this with this
        subst this
        have h1 : (byL l).flatten[i]? = some (.lit (.int .u8 (l[i].toNat))) := by rw [byL_flat, List.getElem?_map, List.getElem?_eq_getElem hi]; rfl
        obtain ⟨e1, _, e2⟩ := hcell i _ h1
        have e3 := rep_lit e2
        rw [e3] at e1
        have ea : (⟨b, off, none⟩ : Addr).add i = ⟨b, off + i, none⟩ := by simp [Addr.add]
        rw [ea, e1, List.getD_eq_getElem?_getD, List.getElem?_map, List.getElem?_eq_getElem hi]; rfl
      · subst he
        have hmp := u8_map l
        rw [hmp] at hrow
        exact done_ownsRow (enc := u8C) (m := true) hok hb (fun _ => rfl) (fun x u hu => by simp only [u8C, List.mem_singleton] at hu; subst hu; rfl) szOf_u8 (by simp only [maxLen]; omega) hrow (fun h _ => absurd h hnn) (.inr ⟨rfl, rfl, rfl⟩)
/-! ### slices.Sorted(maps.Keys(m)) -/
end Go.Proofs.Ytndojmpgadbefaa
