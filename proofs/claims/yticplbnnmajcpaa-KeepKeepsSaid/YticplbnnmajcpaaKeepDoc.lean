/- keep: the versions of each key, what is kept of them: the document's way and the program's. Plain: no program in sight. -/
import Derived.Test.YticplbnnmajcpaaCell
namespace Go.Proofs.Yticplbnnmajcpaa
open Go Go.RowKit

/-! ### the versions of each key -/
def grp : List CellD → List (List CellD)
  | [] => []
  | c :: l => match grp l with
    | [] => [[c]]
    | g :: gs => if keqB c (g.headD default) then (c :: g) :: gs else [c] :: g :: gs
theorem keqB_refl (a : CellD) : keqB a a = true := by simp [keqB]
theorem keqB_fun {a b : CellD} (h : keqB a b = true) : keqB a = keqB b := by
  funext x; unfold keqB at *; rw [beq_iff_eq] at h; rw [h]
theorem keqB_comm (a b : CellD) : keqB a b = keqB b a := by unfold keqB; rw [Bool.eq_iff_iff]; simp; exact ⟨fun h => h.symm, fun h => h.symm⟩
theorem grp_cons (c : CellD) (l : List CellD) : grp (c :: l) = (c :: l.takeWhile (keqB c)) :: grp (l.dropWhile (keqB c)) := by
  induction l generalizing c with
  | nil => rfl
  | cons d l ih =>
    have e : grp (c :: d :: l) = match grp (d :: l) with
      | [] => [[c]]
      | g :: gs => if keqB c (g.headD default) then (c :: g) :: gs else [c] :: g :: gs := rfl
    rw [e, ih d]
    show (if keqB c d = true then (c :: d :: List.takeWhile (keqB d) l) :: grp (List.dropWhile (keqB d) l) else [c] :: (d :: List.takeWhile (keqB d) l) :: grp (List.dropWhile (keqB d) l)) = _
    by_cases h : keqB c d = true
    · rw [if_pos h, List.takeWhile_cons, List.dropWhile_cons, if_pos h, if_pos h, keqB_fun h]
    · rw [if_neg h, List.takeWhile_cons, List.dropWhile_cons, if_neg h, if_neg h, ih d]
theorem grp_flat : ∀ (l : List CellD), (grp l).flatten = l := by
  intro l
  induction l with
  | nil => rfl
  | cons c l ih =>
    have e : grp (c :: l) = match grp l with
      | [] => [[c]]
      | g :: gs => if keqB c (g.headD default) then (c :: g) :: gs else [c] :: g :: gs := rfl
    rw [e]
    rcases hg : grp l with _ | ⟨g, gs⟩
    · rw [hg] at ih; simp only [List.flatten_nil] at ih; simp [← ih]
    · rw [hg] at ih
      simp only
      split
      · simp only [List.flatten_cons, List.cons_append] at ih ⊢; rw [ih]
      · simp only [List.flatten_cons, List.cons_append, List.nil_append] at ih ⊢; rw [ih]
theorem takeWhile_cut {p : CellD → Bool} : ∀ (n : Nat) (m : List CellD), n ≤ m.length → (∀ j (_ : j < n) (h' : j < m.length), p m[j] = true) → (∀ h : n < m.length, p m[n] = false) → m.takeWhile p = m.take n ∧ m.dropWhile p = m.drop n := by
  intro n
  induction n with
  | zero =>
    intro m _ _ hd
    cases m with
    | nil => simp
    | cons x m =>
      have := hd (by simp)
      simp only [List.getElem_cons_zero] at this
      simp [this]
  | succ n ih =>
    intro m hn hs hd
    cases m with
    | nil => simp at hn
    | cons x m =>
      have h0 := hs 0 (by omega) (by simp)
      simp only [List.getElem_cons_zero] at h0
      have h1 := ih m (by simpa using hn) (fun j h h' => by have := hs (j + 1) (by omega) (by simpa using h'); simpa using this) (fun h => by have := hd (by simpa using h); simpa using this)
      simp [h0, h1.1, h1.2]
theorem grp_cut (m : List CellD) (n : Nat) (h0 : 0 < n) (hn : n ≤ m.length) (hs : ∀ j (_ : j < n), keqB (m[0]'(by omega)) (m[j]'(by omega)) = true) (hd : ∀ h : n < m.length, keqB (m[0]'(by omega)) m[n] = false) : grp m = m.take n :: grp (m.drop n) := by
  cases m with
  | nil => simp at hn; omega
  | cons c l =>
    obtain ⟨k, rfl⟩ : ∃ k, n = k + 1 := ⟨n - 1, by omega⟩
    have h := takeWhile_cut (p := keqB c) k l (by simpa using hn) (fun j h h' => by have := hs (j + 1) (by omega); simpa using this) (fun h => by have := hd (by simpa using h); simpa using this)
    rw [grp_cons, h.1, h.2]
    simp

/-! ### what is kept -/
def seenP (looks : List Int) (p : Option CellD) (c : CellD) : Bool :=
  (looks ++ [maxSeq]).any fun a => decide (c.seq ≤ a) && (match p with | none => true | some x => decide (a < x.seq))
def seenG (looks : List Int) : Option CellD → List CellD → List CellD
  | _, [] => []
  | p, c :: l => (if seenP looks p c then [c] else []) ++ seenG looks (some c) l
def trimB (bottom : Bool) (l : List CellD) : List CellD := if bottom then (l.reverse.dropWhile (·.kind == 0)).reverse else l
def keepL (l : List CellD) (looks : List Int) (bottom : Bool) : List CellD := (grp l).flatMap fun g => trimB bottom (seenG looks none g)

/-! ### the document's loop -/
/-- The version of this key just ahead. -/
def samePrev (p : Option CellD) (c : CellD) : Option CellD := match p with | none => none | some x => if keqB x c then some x else none
def popK (bottom : Bool) (c : CellD) (o : List CellD) : List CellD := if bottom then (o.reverse.dropWhile (fun x => keqB x c && x.kind == 0)).reverse else o
def lastOf (c : CellD) (rest : List CellD) : Bool := match rest with | [] => true | d :: _ => !keqB d c
def keepF (looks : List Int) (bottom : Bool) : Option CellD → List CellD → List CellD → List CellD
  | _, out, [] => out
  | p, out, c :: rest =>
    keepF looks bottom (some c) (if lastOf c rest then popK bottom c (out ++ if seenP looks (samePrev p c) c then [c] else []) else (out ++ if seenP looks (samePrev p c) c then [c] else [])) rest
theorem pop_trim (bottom : Bool) (c : CellD) (o s : List CellD) (ho : ∀ x ∈ o, keqB x c = false) (hs : ∀ x ∈ s, keqB x c = true) : popK bottom c (o ++ s) = o ++ trimB bottom s := by
  unfold popK trimB
  cases bottom with
  | false => rfl
  | true =>
    simp only [if_true, List.reverse_append]
    have h1 : ∀ (s o : List CellD), (∀ x ∈ o, keqB x c = false) → (∀ x ∈ s, keqB x c = true) → (s ++ o).dropWhile (fun x => keqB x c && x.kind == 0) = s.dropWhile (·.kind == 0) ++ o := by
      intro s
      induction s with
      | nil =>
        intro o ho _
        cases o with
        | nil => rfl
        | cons x o => simp [ho x (by simp)]
      | cons y s ih =>
        intro o ho hs
        simp only [List.cons_append, List.dropWhile_cons, hs y (by simp), Bool.true_and]
        split
        · exact ih o ho (fun x hx => hs x (by simp [hx]))
        · simp
    rw [h1 s.reverse o.reverse (fun x hx => ho x (by simpa using hx)) (fun x hx => hs x (by simpa using hx))]
    simp
theorem seenG_mem {looks : List Int} : ∀ {l : List CellD} {p : Option CellD} {x : CellD}, x ∈ seenG looks p l → x ∈ l := by
  intro l
  induction l with
  | nil => intro p x h; simp [seenG] at h
  | cons c l ih =>
    intro p x h
    simp only [seenG, List.mem_append] at h
    rcases h with h | h
    · split at h
      · simp at h; simp [h]
      · simp at h
    · exact List.mem_cons_of_mem _ (ih h)
theorem trim_mem {bottom : Bool} {l : List CellD} {x : CellD} (h : x ∈ trimB bottom l) : x ∈ l := by
  unfold trimB at h
  split at h
  · have := List.mem_reverse.1 h
    exact List.mem_reverse.1 ((List.dropWhile_sublist _).subset this)
  · exact h
/-- Within a key: what was seen stands behind; at its last version the Dels go. -/
theorem keepF_grp (looks : List Int) (bottom : Bool) (out : List CellD) : ∀ (g : List CellD) (p : Option CellD) (s b : List CellD) (c : CellD), (∀ x ∈ g, keqB x c = true) → (∀ x ∈ s, keqB x c = true) → (∀ x ∈ out, keqB x c = false) → (match p with | none => True | some x => keqB x c = true) →
    (∀ y, b.head? = some y → keqB y c = false) → g ≠ [] → keepF looks bottom p (out ++ s) (g ++ b) = keepF looks bottom (g.getLast?) (out ++ trimB bottom (s ++ seenG looks p g)) b := by
  intro g
  induction g with
  | nil => intro p s b c _ _ _ _ _ h; exact absurd rfl h
  | cons x g ih =>
    intro p s b c hg hs ho hp hb _
    have hx := hg x (by simp)
    have hsp : samePrev p x = p := by
      unfold samePrev
      cases p with
      | none => rfl
      | some y =>
        have : keqB y x = true := by rw [keqB_iff] at *; simp only at hp; rw [keqB_iff] at hp; rw [hp, hx]
        simp [this]
    simp only [List.cons_append, keepF, hsp]
    have happ : ∀ z : List CellD, (out ++ s) ++ z = out ++ (s ++ z) := fun z => List.append_assoc _ _ _
    rw [happ]
    have hs2 : ∀ z ∈ s ++ (if seenP looks p x = true then [x] else []), keqB z c = true := by
      intro z hz
      rcases List.mem_append.1 hz with h | h
      · exact hs z h
      · split at h
        · simp at h; rw [h]; exact hx
        · simp at h
    cases g with
    | nil =>
      have hl : lastOf x ([] ++ b) = true := by
        cases b with
        | nil => rfl
        | cons y b =>
          have := hb y rfl
          simp only [List.nil_append, lastOf, Bool.not_eq_true']
          rw [keqB_no] at this ⊢
          rw [keqB_iff] at hx
          rw [hx]; exact this
      rw [hl, if_pos rfl]
      have hco : ∀ z, keqB z x = keqB z c := fun z => by
        rw [keqB_comm z x, keqB_comm z c, keqB_fun hx]
      have hpt := pop_trim bottom x out (s ++ (if seenP looks p x = true then [x] else [])) (fun z hz => by rw [hco]; exact ho z hz) (fun z hz => by rw [hco]; exact hs2 z hz)
      rw [hpt]
      simp [seenG]
    | cons y g =>
      have hl : lastOf x (y :: g ++ b) = false := by
        have hy := hg y (by simp)
        simp only [List.cons_append, lastOf, Bool.not_eq_false']
        rw [keqB_iff] at *
        rw [hy, hx]
      rw [hl, if_neg (by simp)]
      have := ih (some x) (s ++ (if seenP looks p x = true then [x] else [])) b c (fun z hz => hg z (by simp [hz])) hs2 ho hx hb (by simp)
      rw [this]
      have e1 : (y :: g).getLast? = (x :: y :: g).getLast? := by simp
      rw [e1]
      congr 2
      rw [show seenG looks p (x :: y :: g) = (if seenP looks p x then [x] else []) ++ seenG looks (some x) (y :: g) from rfl, List.append_assoc]
theorem less_keys {a b : CellD} (h : lessV a b = true) : slt b.key a.key = false := by
  rw [less_iff] at h
  rcases h with h | ⟨e, _⟩
  · exact slt_asym h
  · rw [e]; exact slt_irrefl _
theorem keepF_all (looks : List Int) (bottom : Bool) : ∀ (n : Nat) (l : List CellD), l.length ≤ n → sortedL l = true → ∀ (p : Option CellD) (out : List CellD), (∀ x ∈ out, ∀ y ∈ l, keqB x y = false) → (match p with | none => True | some x => ∀ y ∈ l, keqB x y = false) →
    keepF looks bottom p out l = out ++ keepL l looks bottom := by
  intro n
  induction n with
  | zero =>
    intro l hl _ p out _ _
    obtain rfl := List.eq_nil_of_length_eq_zero (Nat.le_zero.1 hl)
    simp [keepF, keepL, grp]
  | succ n ih =>
    intro l hl hso p out ho hp
    cases l with
    | nil => simp [keepF, keepL, grp]
    | cons c l =>
      have hsp := sorted_pair.1 hso
      have hsplit : c :: l = (c :: l.takeWhile (keqB c)) ++ l.dropWhile (keqB c) := by simp
      have hkl : keepL (c :: l) looks bottom = trimB bottom (seenG looks none (c :: l.takeWhile (keqB c))) ++ keepL (l.dropWhile (keqB c)) looks bottom := by
        unfold keepL; rw [grp_cons]; simp
      have hnone : keepF looks bottom p out (c :: l) = keepF looks bottom none out (c :: l) := by
        cases p with
        | none => rfl
        | some x =>
          have hx := hp c (by simp)
          simp only [keepF]
          have : samePrev (some x) c = samePrev none c := by simp [samePrev, hx]
          rw [this]
      have htw : ∀ x ∈ l.takeWhile (keqB c), keqB c x = true := fun x hx => by
        have h := List.all_takeWhile (l := l) (p := keqB c)
        exact List.all_eq_true.1 h x hx
      have hdw : ∀ y, (l.dropWhile (keqB c)).head? = some y → keqB c y = false := fun y hy => by
        have := List.head?_dropWhile_not (keqB c) l
        rw [hy] at this
        simpa using this
      have hg := keepF_grp looks bottom out (c :: l.takeWhile (keqB c)) none [] (l.dropWhile (keqB c)) c (fun x hx => by
          rcases List.mem_cons.1 hx with rfl | hx
          · exact keqB_refl _
          · rw [keqB_comm]; exact htw x hx) (fun x hx => by simp at hx) (fun x hx => ho x hx c (by simp)) trivial (fun y hy => by rw [keqB_comm]; exact hdw y hy) (by simp)
      rw [List.append_nil] at hg
      rw [hnone, hsplit, hg, ← hsplit, hkl]
      simp only [List.nil_append]
      -- what follows has other keys
      have hsub : (l.dropWhile (keqB c)).Sublist l := List.dropWhile_sublist _
      have hfar : ∀ y ∈ l.dropWhile (keqB c), keqB c y = false := by
        intro y hy
        rcases hd : l.dropWhile (keqB c) with _ | ⟨z, d⟩
        · rw [hd] at hy; simp at hy
        · have hz := hdw z (by rw [hd]; rfl)
          have hsd : (z :: d).Pairwise (fun a b => lessV a b = true) := by rw [← hd]; exact (List.Pairwise.sublist hsub (List.pairwise_cons.1 hsp).2)
          have hcz : lessV c z = true := (List.pairwise_cons.1 hsp).1 z (hsub.subset (by rw [hd]; simp))
          have hczk : slt c.key z.key = true := by
            rw [less_iff] at hcz
            rcases hcz with h | ⟨e, _⟩
            · exact h
            · rw [keqB_no] at hz; exact absurd e hz
          rw [hd] at hy
          rcases List.mem_cons.1 hy with rfl | hy
          · exact hz
          · have hzy := (List.pairwise_cons.1 hsd).1 y hy
            have h1 := less_keys hzy
            rw [keqB_no]
            intro e
            rw [e] at hczk
            rw [hczk] at h1; cases h1
      rw [ih (l.dropWhile (keqB c)) (by
          have := hsub.length_le
          simp only [List.length_cons] at hl; omega)
        (sorted_pair.2 (List.Pairwise.sublist hsub (List.pairwise_cons.1 hsp).2))
        _ _ ?_ ?_, List.append_assoc]
      · intro x hx y hy
        rcases List.mem_append.1 hx with hx | hx
        · exact ho x hx y (List.mem_cons_of_mem _ (hsub.subset hy))
        · have hxg := seenG_mem (trim_mem hx)
          have hxc : keqB c x = true := by
            rcases List.mem_cons.1 hxg with rfl | hxg
            · exact keqB_refl _
            · exact htw x hxg
          rw [← keqB_fun hxc]; exact hfar y hy
      · have hlast : ∃ z, (c :: l.takeWhile (keqB c)).getLast? = some z ∧ z ∈ (c :: l.takeWhile (keqB c)) := by
          rw [List.getLast?_eq_some_getLast (by simp)]
          exact ⟨_, rfl, List.getLast_mem _⟩
        obtain ⟨z, hz, hzm⟩ := hlast
        rw [hz]
        intro y hy
        have hzc : keqB c z = true := by
          rcases List.mem_cons.1 hzm with rfl | h
          · exact keqB_refl _
          · exact htw z h
        rw [← keqB_fun hzc]; exact hfar y hy
theorem keepF_keep (l : List CellD) (looks : List Int) (bottom : Bool) (h : sortedL l = true) : keepF looks bottom none [] l = keepL l looks bottom := by
  rw [keepF_all looks bottom l.length l (Nat.le_refl _) h none [] (fun x hx => by simp at hx) trivial]; rfl
end Go.Proofs.Yticplbnnmajcpaa
