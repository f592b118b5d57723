/- keep: a list in pieces: the document's way, the program's, and what pieces are like. Plain: no program in sight. -/
import Derived.Test.YticplbnnmajcpaaKeepSet
namespace Go.Proofs.Yticplbnnmajcpaa
open Go Go.RowKit

def wtC (c : CellD) : Int := (c.key.size : Int) + c.val.size + 16
def wt (l : List CellD) : Int := l.foldl (fun n c => n + wtC c) 0
theorem wt_acc : ∀ (l : List CellD) (n : Int), l.foldl (fun n c => n + wtC c) n = n + wt l := by
  intro l
  induction l with
  | nil => intro n; simp [wt]
  | cons c l ih =>
    intro n
    have h1 := ih (n + wtC c)
    have h2 := ih (0 + wtC c)
    simp only [List.foldl_cons, wt] at *
    rw [h1, h2]; omega
theorem wt_append (l m : List CellD) : wt (l ++ m) = wt l + wt m := by
  have := wt_acc m (wt l)
  unfold wt at *
  rw [List.foldl_append]; exact this
theorem wt_cons (c : CellD) (l : List CellD) : wt (c :: l) = wtC c + wt l := by
  have := wt_acc l (0 + wtC c)
  unfold wt at *
  rw [List.foldl_cons, this]; omega
theorem wtC_nn (c : CellD) : 0 ≤ wtC c := by unfold wtC; omega
theorem wt_nn : ∀ l : List CellD, 0 ≤ wt l := by
  intro l
  induction l with
  | nil => simp [wt]
  | cons c l ih => rw [wt_cons]; have := wtC_nn c; omega
/-- The document's pieces: 'cur' is what stands since the last one. -/
def lastK (c : CellD) (rest : List CellD) : Bool := match rest with | [] => false | d :: _ => !keqB d c
def cutF (size : Int) : List CellD → List CellD → List (List CellD)
  | cur, [] => if cur.isEmpty then [] else [cur]
  | cur, c :: rest => if rest.isEmpty || (decide (size ≤ wt (cur ++ [c])) && lastK c rest) then (cur ++ [c]) :: cutF size [] rest else cutF size (cur ++ [c]) rest
/-- The program's. -/
def cutP (size : Int) : List CellD → List (List CellD) → List (List CellD)
  | now, [] => if now.isEmpty then [] else [now]
  | now, g :: gs => if decide (size ≤ wt now) then now :: cutP size g gs else cutP size (now ++ g) gs
theorem cutF_grp (size : Int) (rest : List CellD) (c0 : CellD) (hr : ∀ y, rest.head? = some y → keqB y c0 = false) : ∀ (g cur : List CellD), g ≠ [] → (∀ x ∈ g, keqB x c0 = true) →
    cutF size cur (g ++ rest) = if rest.isEmpty || decide (size ≤ wt (cur ++ g)) then (cur ++ g) :: cutF size [] rest else cutF size (cur ++ g) rest := by
  intro g
  induction g with
  | nil => intro cur h; exact absurd rfl h
  | cons x g ih =>
    intro cur _ hg
    have hx := hg x (by simp)
    cases g with
    | nil =>
      simp only [List.cons_append, List.nil_append, cutF]
      cases rest with
      | nil => simp
      | cons y rest =>
        have hy := hr y rfl
        have : lastK x (y :: rest) = true := by
          simp only [lastK, Bool.not_eq_true']
          rw [keqB_no] at hy ⊢
          rw [keqB_iff] at hx
          rw [hx]; exact hy
        rw [this, Bool.and_true]
    | cons y g =>
      have hy := hg y (by simp)
      have hl : lastK x (y :: g ++ rest) = false := by
        simp only [List.cons_append, lastK, Bool.not_eq_false']
        rw [keqB_iff] at *
        rw [hy, hx]
      rw [List.cons_append, cutF, hl, Bool.and_false]
      rw [if_neg (by simp), ih (cur ++ [x]) (by simp) (fun z hz => hg z (by simp [hz]))]
      simp only [List.append_assoc, List.cons_append, List.nil_append]
theorem cut_same (size : Int) (hsz : 1 ≤ size) : ∀ (gs : List (List CellD)), (∀ g ∈ gs, g ≠ [] ∧ ∀ x ∈ g, ∀ y ∈ g, keqB x y = true) → gs.Pairwise (fun g h => ∀ x ∈ g, ∀ y ∈ h, slt x.key y.key = true) →
    ∀ cur, (cur = [] ∨ wt cur < size) → cutP size cur gs = cutF size cur gs.flatten := by
  intro gs
  induction gs with
  | nil => intro _ _ cur _; rfl
  | cons g gs ih =>
    intro h hp cur hc
    have hp' := List.pairwise_cons.1 hp
    obtain ⟨hne, hk⟩ := h g (by simp)
    obtain ⟨x, r, rfl⟩ : ∃ x r, g = x :: r := by cases g with
      | nil => exact absurd rfl hne
      | cons x r => exact ⟨x, r, rfl⟩
    have hcw : ¬ size ≤ wt cur := by
      rcases hc with rfl | hc
      · simp only [wt, List.foldl_nil]; omega
      · omega
    have hih := ih (fun g' hg' => h g' (by simp [hg'])) hp'.2
    rw [cutP, if_neg (by simpa using hcw), List.flatten_cons]
    have hr : ∀ y, gs.flatten.head? = some y → keqB y x = false := by
      intro y hy
      have hy' : y ∈ gs.flatten := List.mem_of_mem_head? hy
      obtain ⟨h', hh', hyh⟩ := List.mem_flatten.1 hy'
      have := hp'.1 h' hh' x (by simp) y hyh
      rw [keqB_no]; intro e; rw [e, slt_irrefl] at this; cases this
    rw [cutF_grp size gs.flatten x hr (x :: r) cur hne (fun z hz => hk z hz x (by simp))]
    cases gs with
    | nil => simp [cutP, cutF]
    | cons g' gs =>
      have hne' := (h g' (by simp)).1
      have hfe : ((g' :: gs).flatten).isEmpty = false := by
        cases g' with
        | nil => exact absurd rfl hne'
        | cons a b => rfl
      rw [hfe, Bool.false_or]
      by_cases hw : size ≤ wt (cur ++ x :: r)
      · rw [if_pos (by simpa using hw), cutP, if_pos (by simpa using hw), ← hih [] (.inl rfl), cutP, if_neg (by rw [show wt ([] : List CellD) = 0 from rfl]; simp; omega)]
        rfl
      · rw [if_neg (by simpa using hw), hih (cur ++ x :: r) (.inr (by omega))]
def cutL (size : Int) (l : List CellD) : List (List CellD) := cutF size [] l
theorem cutL_prog {size : Int} (hsz : 1 ≤ size) {l : List CellD} (hso : sortedL l = true) : cutP size [] (grp l) = cutL size l := by
  have hsp := grp_spec l.length l (Nat.le_refl _) hso
  rw [cut_same size hsz (grp l) (fun g hg => ⟨(hsp.1 g hg).1, (hsp.1 g hg).2.2.2⟩) hsp.2 [] (.inl rfl), grp_flat]; rfl

/-! ### what pieces are like -/
def lastD (p : List CellD) : CellD := p.getLastD default
def okPiece (size : Int) (p : List CellD) : Prop := p ≠ [] ∧ wt p - wt (p.filter (fun c => keqB c (lastD p))) < size
theorem cutP_flat (size : Int) : ∀ (gs : List (List CellD)) (now : List CellD), (cutP size now gs).flatten = now ++ gs.flatten := by
  intro gs
  induction gs with
  | nil => intro now; simp only [cutP]; split <;> simp_all
  | cons g gs ih =>
    intro now
    simp only [cutP]
    split
    · rw [List.flatten_cons, ih, List.flatten_cons]
    · rw [ih, List.flatten_cons, List.append_assoc]
theorem okPiece_grp {size : Int} {now g : List CellD} (hne : g ≠ []) (hk : ∀ x ∈ g, ∀ y ∈ g, keqB x y = true) (hw : wt now < size) : okPiece size (now ++ g) := by
  refine ⟨fun h => hne (List.append_eq_nil_iff.1 h).2, ?_⟩
  obtain ⟨z, hz⟩ : ∃ z, (now ++ g).getLast? = some z ∧ z ∈ g := by
    rw [List.getLast?_append]
    obtain ⟨z, hz⟩ : ∃ z, g.getLast? = some z := by
      rw [List.getLast?_eq_some_getLast hne]; exact ⟨_, rfl⟩
    exact ⟨z, by rw [hz]; rfl, List.mem_of_getLast? hz⟩
  have hl : lastD (now ++ g) = z := by unfold lastD; rw [List.getLastD_eq_getLast?, hz.1]; rfl
  rw [hl, List.filter_append, wt_append, wt_append]
  have hg : g.filter (fun c => keqB c z) = g := List.filter_eq_self.2 fun x hx => hk x hx z hz.2
  rw [hg]
  have := wt_nn (now.filter (fun c => keqB c z))
  omega
theorem cutP_ok (size : Int) (hsz : 1 ≤ size) : ∀ (gs : List (List CellD)), (∀ g ∈ gs, g ≠ [] ∧ ∀ x ∈ g, ∀ y ∈ g, keqB x y = true) → ∀ now, (now = [] ∨ okPiece size now) → (∀ p ∈ cutP size now gs, okPiece size p) ∧ (∀ i (h : i + 1 < (cutP size now gs).length), size ≤ wt ((cutP size now gs)[i]'(by omega))) := by
  intro gs
  induction gs with
  | nil =>
    intro _ now hn
    simp only [cutP]
    split
    · exact ⟨fun p hp => by simp at hp, fun i h => by simp at h⟩
    · rename_i hne
      refine ⟨fun p hp => ?_, fun i h => by simp at h⟩
      obtain rfl : p = now := by simpa using hp
      rcases hn with rfl | hn
      · simp at hne
      · exact hn
  | cons g gs ih =>
    intro h now hn
    obtain ⟨hne, hk⟩ := h g (by simp)
    have h' : ∀ g ∈ gs, g ≠ [] ∧ ∀ x ∈ g, ∀ y ∈ g, keqB x y = true := fun g' hg' => h g' (by simp [hg'])
    simp only [cutP]
    split
    · rename_i hw
      have hw' : size ≤ wt now := by simpa using hw
      have hnn : okPiece size now := by
        rcases hn with rfl | hn
        · simp only [wt, List.foldl_nil] at hw'; omega
        · exact hn
      have hg0 : okPiece size ([] ++ g) := okPiece_grp hne hk (by simp only [wt, List.foldl_nil]; omega)
      obtain ⟨h1, h2⟩ := ih h' g (.inr hg0)
      refine ⟨fun p hp => ?_, fun i hi => ?_⟩
      · rcases List.mem_cons.1 hp with rfl | hp
        · exact hnn
        · exact h1 p hp
      · cases i with
        | zero => exact hw'
        | succ i => exact h2 i (by simpa using hi)
    · rename_i hw
      exact ih h' (now ++ g) (.inr (okPiece_grp hne hk (by simp at hw; omega)))
/-- Pieces next to each other have no key in common. -/
theorem cutP_keys (size : Int) : ∀ (gs : List (List CellD)) (now : List CellD), (∀ g ∈ gs, g ≠ []) → gs.Pairwise (fun g h => ∀ x ∈ g, ∀ y ∈ h, slt x.key y.key = true) → (∀ x ∈ now, ∀ g ∈ gs, ∀ y ∈ g, slt x.key y.key = true) →
    (cutP size now gs).Pairwise (fun p q => ∀ x ∈ p, ∀ y ∈ q, slt x.key y.key = true) := by
  intro gs
  induction gs with
  | nil => intro now _ _ _; simp only [cutP]; split <;> simp
  | cons g gs ih =>
    intro now hne hp hx
    have hp' := List.pairwise_cons.1 hp
    simp only [cutP]
    split
    · refine List.pairwise_cons.2 ⟨fun q hq x hxn y hy => ?_, ih g (fun g' hg' => hne g' (by simp [hg'])) hp'.2 (fun x hxg g' hg' y hy => hp'.1 g' hg' x hxg y hy)⟩
      have hyf : y ∈ (cutP size g gs).flatten := List.mem_flatten.2 ⟨q, hq, hy⟩
      rw [cutP_flat] at hyf
      rcases List.mem_append.1 hyf with h | h
      · exact hx x hxn g (by simp) y h
      · obtain ⟨g', hg', hyg⟩ := List.mem_flatten.1 h
        exact hx x hxn g' (by simp [hg']) y hyg
    · refine ih (now ++ g) (fun g' hg' => hne g' (by simp [hg'])) hp'.2 (fun x hxn g' hg' y hy => ?_)
      rcases List.mem_append.1 hxn with h | h
      · exact hx x h g' (by simp [hg']) y hy
      · exact hp'.1 g' hg' x h y hy
theorem cut_law {size : Int} (hsz : 1 ≤ size) {l : List CellD} (hso : sortedL l = true) :
    (cutL size l).flatten = l ∧ (∀ p ∈ cutL size l, okPiece size p) ∧ (∀ (i : Nat) (p : List CellD), (cutL size l)[i]? = some p → i + 1 < (cutL size l).length → size ≤ wt p) ∧ (cutL size l).Pairwise (fun p q => ∀ x ∈ p, ∀ y ∈ q, slt x.key y.key = true) := by
  have hsp := grp_spec l.length l (Nat.le_refl _) hso
  rw [← cutL_prog hsz hso]
  have h1 := cutP_ok size hsz (grp l) (fun g hg => ⟨(hsp.1 g hg).1, (hsp.1 g hg).2.2.2⟩) [] (.inl rfl)
  refine ⟨?_, h1.1, fun i p hp hi => ?_, cutP_keys size (grp l) [] (fun g hg => (hsp.1 g hg).1) hsp.2 (fun x hx => by simp at hx)⟩
  · rw [cutP_flat, grp_flat]; rfl
  · obtain ⟨_, e⟩ := List.getElem?_eq_some_iff.1 hp
    rw [← e]; exact h1.2 i hi
end Go.Proofs.Yticplbnnmajcpaa
