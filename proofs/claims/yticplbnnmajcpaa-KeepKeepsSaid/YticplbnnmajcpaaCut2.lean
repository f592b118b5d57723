/- keep: a list in pieces, for any test of what is heavy: the document's way, the program's, and what pieces are like. Plain: no program in sight. -/
import Derived.Test.YticplbnnmajcpaaKeepSet
namespace Go.Proofs.Yticplbnnmajcpaa
open Go Go.RowKit

def lastK2 (c : CellD) (rest : List CellD) : Bool := match rest with | [] => false | d :: _ => !keqB d c
def cutF2 (hv : List CellD → Bool) : List CellD → List CellD → List (List CellD)
  | cur, [] => if cur.isEmpty then [] else [cur]
  | cur, c :: rest => if rest.isEmpty || (hv (cur ++ [c]) && lastK2 c rest) then (cur ++ [c]) :: cutF2 hv [] rest else cutF2 hv (cur ++ [c]) rest
def cutP2 (hv : List CellD → Bool) : List CellD → List (List CellD) → List (List CellD)
  | now, [] => if now.isEmpty then [] else [now]
  | now, g :: gs => if hv now then now :: cutP2 hv g gs else cutP2 hv (now ++ g) gs
section
variable {hv : List CellD → Bool}
theorem cutF2_grp (rest : List CellD) (c0 : CellD) (hr : ∀ y, rest.head? = some y → keqB y c0 = false) : ∀ (g cur : List CellD), g ≠ [] → (∀ x ∈ g, keqB x c0 = true) →
    cutF2 hv cur (g ++ rest) = if rest.isEmpty || hv (cur ++ g) then (cur ++ g) :: cutF2 hv [] rest else cutF2 hv (cur ++ g) rest := by
  intro g
  induction g with
  | nil => intro cur h; exact absurd rfl h
  | cons x g ih =>
    intro cur _ hg
    have hx := hg x (by simp)
    cases g with
    | nil =>
      simp only [List.cons_append, List.nil_append, cutF2]
      cases rest with
      | nil => simp
      | cons y rest =>
        have hy := hr y rfl
        have : lastK2 x (y :: rest) = true := by
          simp only [lastK2, Bool.not_eq_true']
          rw [keqB_no] at hy ⊢
          rw [keqB_iff] at hx
          rw [hx]; exact hy
        rw [this, Bool.and_true]
    | cons y g =>
      have hy := hg y (by simp)
      have hl : lastK2 x (y :: g ++ rest) = false := by
        simp only [List.cons_append, lastK2, Bool.not_eq_false']
        rw [keqB_iff] at *
        rw [hy, hx]
      rw [List.cons_append, cutF2, hl, Bool.and_false]
      rw [if_neg (by simp), ih (cur ++ [x]) (by simp) (fun z hz => hg z (by simp [hz]))]
      simp only [List.append_assoc, List.cons_append, List.nil_append]
theorem cut_same2 (h0 : hv [] = false) : ∀ (gs : List (List CellD)), (∀ g ∈ gs, g ≠ [] ∧ ∀ x ∈ g, ∀ y ∈ g, keqB x y = true) → gs.Pairwise (fun g h => ∀ x ∈ g, ∀ y ∈ h, slt x.key y.key = true) →
    ∀ cur, hv cur = false → cutP2 hv cur gs = cutF2 hv cur gs.flatten := by
  intro gs
  induction gs with
  | nil => intro _ _ cur _; rfl
  | cons g gs ih =>
    intro h hp cur hc
    have hp' := List.pairwise_cons.1 hp
    obtain ⟨hne, hk⟩ := h g (by simp)
    obtain ⟨x, r, rfl⟩ : ∃ x r, g = x :: r := by cases g with
      | nil => exact absurd rfl hne
      | cons x r => exact ⟨x, r, rfl⟩
    have hih := ih (fun g' hg' => h g' (by simp [hg'])) hp'.2
    rw [cutP2, hc, if_neg (by simp), List.flatten_cons]
    have hr : ∀ y, gs.flatten.head? = some y → keqB y x = false := by
      intro y hy
      have hy' : y ∈ gs.flatten := List.mem_of_mem_head? hy
      obtain ⟨h', hh', hyh⟩ := List.mem_flatten.1 hy'
      have := hp'.1 h' hh' x (by simp) y hyh
      rw [keqB_no]; intro e; rw [e, slt_irrefl] at this; cases this
    rw [cutF2_grp gs.flatten x hr (x :: r) cur hne (fun z hz => hk z hz x (by simp))]
    cases gs with
    | nil => simp [cutP2, cutF2]
    | cons g' gs =>
      have hne' := (h g' (by simp)).1
      have hfe : ((g' :: gs).flatten).isEmpty = false := by
        cases g' with
        | nil => exact absurd rfl hne'
        | cons a b => rfl
      rw [hfe, Bool.false_or]
      cases hw : hv (cur ++ x :: r) with
      | true =>
        rw [if_pos rfl, cutP2, hw, if_pos rfl, ← hih [] h0, cutP2, h0, if_neg (by simp)]
        rfl
      | false => rw [if_neg (by simp), hih (cur ++ x :: r) hw]
theorem cutP2_flat : ∀ (gs : List (List CellD)) (now : List CellD), (cutP2 hv now gs).flatten = now ++ gs.flatten := by
  intro gs
  induction gs with
  | nil => intro now; simp only [cutP2]; split <;> simp_all
  | cons g gs ih =>
    intro now
    simp only [cutP2]
    split
    · rw [List.flatten_cons, ih, List.flatten_cons]
    · rw [ih, List.flatten_cons, List.append_assoc]
/-- A piece: what was not heavy, and all of one key. -/
def okPiece2 (hv : List CellD → Bool) (p : List CellD) : Prop := ∃ now g, p = now ++ g ∧ g ≠ [] ∧ hv now = false ∧ (∀ x ∈ g, ∀ y ∈ g, keqB x y = true) ∧ ∀ x ∈ now, ∀ y ∈ g, keqB x y = false
theorem cutP2_ok (h0 : hv [] = false) : ∀ (gs : List (List CellD)), (∀ g ∈ gs, g ≠ [] ∧ ∀ x ∈ g, ∀ y ∈ g, keqB x y = true) → gs.Pairwise (fun g h => ∀ x ∈ g, ∀ y ∈ h, slt x.key y.key = true) → ∀ now, (now = [] ∨ okPiece2 hv now) → (∀ x ∈ now, ∀ g ∈ gs, ∀ y ∈ g, slt x.key y.key = true) →
    (∀ p ∈ cutP2 hv now gs, okPiece2 hv p) ∧ (∀ (i : Nat) (p : List CellD), (cutP2 hv now gs)[i]? = some p → i + 1 < (cutP2 hv now gs).length → hv p = true) := by
  intro gs
  induction gs with
  | nil =>
    intro _ _ now hn _
    simp only [cutP2]
    split
    · exact ⟨fun p hp => by simp at hp, fun i p h h' => by simp at h'⟩
    · rename_i hne
      refine ⟨fun p hp => ?_, fun i p h h' => by simp at h'⟩
      obtain rfl : p = now := by simpa using hp
      rcases hn with rfl | hn
      · simp at hne
      · exact hn
  | cons g gs ih =>
    intro h hp now hn hx
    have hp' := List.pairwise_cons.1 hp
    obtain ⟨hne, hk⟩ := h g (by simp)
    have h' : ∀ g ∈ gs, g ≠ [] ∧ ∀ x ∈ g, ∀ y ∈ g, keqB x y = true := fun g' hg' => h g' (by simp [hg'])
    simp only [cutP2]
    cases hw : hv now with
    | true =>
      rw [if_pos rfl]
      have hnn : okPiece2 hv now := by
        rcases hn with rfl | hn
        · rw [h0] at hw; cases hw
        · exact hn
      obtain ⟨h1, h2⟩ := ih h' hp'.2 g (.inr ⟨[], g, rfl, hne, h0, hk, fun x hx => by simp at hx⟩) (fun x hxg g' hg' y hy => hp'.1 g' hg' x hxg y hy)
      refine ⟨fun p hp => ?_, fun i p hi hl => ?_⟩
      · rcases List.mem_cons.1 hp with rfl | hp
        · exact hnn
        · exact h1 p hp
      · cases i with
        | zero => simp only [List.getElem?_cons_zero, Option.some.injEq] at hi; subst hi; exact hw
        | succ i => exact h2 i p (by simpa using hi) (by simpa using hl)
    | false =>
      rw [if_neg (by simp)]
      refine ih h' hp'.2 (now ++ g) (.inr ⟨now, g, rfl, hne, hw, hk, fun x hxn y hy => ?_⟩) (fun x hxn g' hg' y hy => ?_)
      · have := hx x hxn g (by simp) y hy
        rw [keqB_no]; intro e; rw [e, slt_irrefl] at this; cases this
      · rcases List.mem_append.1 hxn with h | h
        · exact hx x h g' (by simp [hg']) y hy
        · exact hp'.1 g' hg' x h y hy
theorem cutP2_keys : ∀ (gs : List (List CellD)) (now : List CellD), (∀ g ∈ gs, g ≠ []) → gs.Pairwise (fun g h => ∀ x ∈ g, ∀ y ∈ h, slt x.key y.key = true) → (∀ x ∈ now, ∀ g ∈ gs, ∀ y ∈ g, slt x.key y.key = true) →
    (cutP2 hv now gs).Pairwise (fun p q => ∀ x ∈ p, ∀ y ∈ q, slt x.key y.key = true) := by
  intro gs
  induction gs with
  | nil => intro now _ _ _; simp only [cutP2]; split <;> simp
  | cons g gs ih =>
    intro now hne hp hx
    have hp' := List.pairwise_cons.1 hp
    simp only [cutP2]
    split
    · refine List.pairwise_cons.2 ⟨fun q hq x hxn y hy => ?_, ih g (fun g' hg' => hne g' (by simp [hg'])) hp'.2 (fun x hxg g' hg' y hy => hp'.1 g' hg' x hxg y hy)⟩
      have hyf : y ∈ (cutP2 hv g gs).flatten := List.mem_flatten.2 ⟨q, hq, hy⟩
      rw [cutP2_flat] at hyf
      rcases List.mem_append.1 hyf with h | h
      · exact hx x hxn g (by simp) y h
      · obtain ⟨g', hg', hyg⟩ := List.mem_flatten.1 h
        exact hx x hxn g' (by simp [hg']) y hyg
    · refine ih (now ++ g) (fun g' hg' => hne g' (by simp [hg'])) hp'.2 (fun x hxn g' hg' y hy => ?_)
      rcases List.mem_append.1 hxn with h | h
      · exact hx x h g' (by simp [hg']) y hy
      · exact hp'.1 g' hg' x h y hy
theorem cut_law2 (h0 : hv [] = false) {l : List CellD} (hso : sortedL l = true) :
    (cutP2 hv [] (grp l)).flatten = l ∧ (∀ p ∈ cutP2 hv [] (grp l), okPiece2 hv p) ∧ (∀ (i : Nat) (p : List CellD), (cutP2 hv [] (grp l))[i]? = some p → i + 1 < (cutP2 hv [] (grp l)).length → hv p = true) ∧ (cutP2 hv [] (grp l)).Pairwise (fun p q => ∀ x ∈ p, ∀ y ∈ q, slt x.key y.key = true) := by
  have hsp := grp_spec l.length l (Nat.le_refl _) hso
  have h1 := cutP2_ok h0 (grp l) (fun g hg => ⟨(hsp.1 g hg).1, (hsp.1 g hg).2.2.2⟩) hsp.2 [] (.inl rfl) (fun x hx => by simp at hx)
  refine ⟨?_, h1.1, h1.2, cutP2_keys (grp l) [] (fun g hg => (hsp.1 g hg).1) hsp.2 (fun x hx => by simp at hx)⟩
  rw [cutP2_flat, grp_flat]; rfl
theorem cut_doc2 (h0 : hv [] = false) {l : List CellD} (hso : sortedL l = true) : cutP2 hv [] (grp l) = cutF2 hv [] l := by
  have hsp := grp_spec l.length l (Nat.le_refl _) hso
  rw [cut_same2 h0 (grp l) (fun g hg => ⟨(hsp.1 g hg).1, (hsp.1 g hg).2.2.2⟩) hsp.2 [] h0, grp_flat]
end
end Go.Proofs.Yticplbnnmajcpaa
