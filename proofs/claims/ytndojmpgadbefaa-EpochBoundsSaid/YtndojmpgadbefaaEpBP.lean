/- EpochBounds, plain: a thousand pins, and as many epochs as there are regions. -/
import Derived.Test.YtndojmpgadbefaaEpAges
set_option linter.unusedVariables false
set_option linter.unusedSimpArgs false
namespace Go.Proofs.Ytndojmpgadbefaa
open Go Go.RowKit Hv
set_option maxRecDepth 20000
def landT : LandD := ⟨true, 1, [], 0⟩
def poolI (i : Nat) : PoolD := ⟨64, List.replicate 1 (List.replicate 64 0), List.replicate 1 false, List.replicate i landT ++ List.replicate (256 - i) landZ⟩
/-- So many epochs, with such pins. -/
def bG (i : Nat) (last : Nat) (pins : List (Ent Int Int) × Nat) : EpD := ⟨poolI i, i, last, 1, (List.range i).map fun j => ⟨j, [], 0, 0⟩, pins.1, pins.2⟩
def bPins (i : Nat) : List (Ent Int Int) × Nat := ((List.range i).map fun j => ⟨((j + 1 : Nat) : Int), 1, j⟩, i)
theorem bG_first : (epZ (poolZ 64 1)).adv 0 landZ = bG 1 0 (bPins 0) := by
  unfold bG EpD.adv epZ PoolD.made poolZ poolI bPins
  simp only [List.range_zero, List.map_nil]
  rfl
theorem bPins_succ (i : Nat) : bPins (i + 1) = ((bPins i).1 ++ [⟨((i + 1 : Nat) : Int), 1, (bPins i).2⟩], (bPins i).2 + 1) := by
  unfold bPins
  rw [List.range_succ, List.map_append]; rfl
theorem bPins_len (i : Nat) : (bPins i).1.length = i := by unfold bPins; rw [List.length_map, List.length_range]
theorem bG_pin (i : Nat) : (bG 1 i (bPins i)).pinned (i + 1) ((bPins i).1 ++ [⟨((i + 1 : Nat) : Int), ((1 : Nat) : Int), (bPins i).2⟩], (bPins i).2 + 1) = bG 1 (i + 1) (bPins (i + 1)) := by
  rw [bPins_succ]; rfl
theorem poolI_free {i : Nat} (hi : i < 256) : (poolI i).lands[i]? = some landZ := by
  show (List.replicate i landT ++ List.replicate (256 - i) landZ)[i]? = _
  rw [List.getElem?_append_right (by simp), List.length_replicate, Nat.sub_self, List.getElem?_replicate]
  rw [if_pos (by omega)]
theorem poolI_there {i j : Nat} {l : LandD} (hj : j < i) (hl : (poolI i).lands[j]? = some l) : l.there = true := by
  rw [show (poolI i).lands[j]? = (List.replicate i landT)[j]? from List.getElem?_append_left (by simp [hj]), List.getElem?_replicate, if_pos hj] at hl
  injection hl with hl
  rw [← hl]; rfl
theorem poolI_made {i : Nat} (hi : i < 256) : (poolI i).made i landZ = poolI (i + 1) := by
  unfold PoolD.made poolI
  congr 1
  obtain ⟨m, hm⟩ : ∃ m, 256 - i = m + 1 := ⟨255 - i, by omega⟩
  rw [hm, show 256 - (i + 1) = m by omega, List.set_append_right _ _ (by simp), List.length_replicate, Nat.sub_self, List.replicate_succ, List.set_cons_zero, List.replicate_succ', List.append_assoc]
  rfl
theorem bG_adv {i : Nat} (hi : i < 256) (last : Nat) (pins : List (Ent Int Int) × Nat) : (bG i last pins).adv i landZ = bG (i + 1) last pins := by
  unfold EpD.adv bG
  simp only [poolI_made hi, List.range_succ, List.map_append]
  rfl
theorem poolI_full : ∀ l ∈ (poolI 256).lands, l.there = true := fun l hl => by
  have hl : l ∈ List.replicate 256 landT ++ [] := hl
  rw [List.append_nil] at hl
  rw [List.eq_of_mem_replicate hl]; rfl
theorem bPins_val {i : Nat} : ∀ x ∈ (bPins i).1, x.val = 1 := fun x hx => by
  obtain ⟨j, _, rfl⟩ := List.mem_map.1 hx; rfl
theorem bPins_nodup (i : Nat) : ((bPins i).1.map (·.key)).Nodup := by
  unfold bPins
  rw [List.map_map]
  refine List.pairwise_map.2 ?_
  exact (List.pairwise_lt_range (n := i)).imp fun {a b} hlt e => by
    have e : ((a + 1 : Nat) : Int) = ((b + 1 : Nat) : Int) := e
    omega
theorem bPins_look {k : Nat} (h : 1 ≤ k ∧ k ≤ 1000) : lookE (bPins 1000).1 (k : Int) = some 1 := by
  have hm : (⟨(k : Int), 1, k - 1⟩ : Ent Int Int) ∈ (bPins 1000).1 := List.mem_map.2 ⟨k - 1, List.mem_range.2 (by omega), by rw [show k - 1 + 1 = k by omega]⟩
  exact mem_lookE (bPins_nodup 1000) hm
theorem oldest_one {i last : Nat} {pins : List (Ent Int Int) × Nat} (hi : 1 ≤ i) (hv : ∀ x ∈ pins.1, x.val = 1) (hne : pins.1 ≠ []) : IsOldest (bG i last pins) 1 := by
  refine ⟨by show (1 : Int) ≤ (i : Int); omega, fun x hx => by rw [hv x hx]; exact Int.le_refl _, .inr ?_⟩
  obtain ⟨x, hx⟩ := List.exists_mem_of_ne_nil _ hne
  exact ⟨x, hx, (hv x hx).symm⟩
end Go.Proofs.Ytndojmpgadbefaa
