/- Abstract values: regions. Plain: over any program. -/
import Derived.Test.YtpemfmlonamikaaAvMem
namespace Go.Proofs.Ytpemfmlonamikaa.Av
open Go Go.RowKit

/-- What stands where an operation was left out. -/
def AV.skip : AV := .lit (.tuple #[])
def AV.said? (x : AV) (want : Bool) : Option Bool := match x with
  | .lit (.bool b) => some (b == want)
  | .lit (.tuple _) => some false
  | _ => none
def gsem (all : List Oper) (s : AS) (o : Oper) : Option Bool :=
  match o.guard with
  | none => some true
  | some (j, want) => ((all[j]?).bind (·.dst)).bind fun d => (s.get d).said? want
def okD (N : Nat) (o : Oper) : Bool := match o.dst with | none => true | some k => Nat.blt k N
def aops (P : Program) (T : Tbl) (all : List Oper) : List Oper → AS → (AS → Prop) → Prop
  | [], s, K => K s
  | o :: r, s, K => match gsem all s o with
    | some true => asem P T o s fun s' => aops P T all r s' K
    | some false => aops P T all r (s.put o.dst .skip) K
    | none => False
theorem aops_cons {P : Program} {T : Tbl} {all r : List Oper} {o : Oper} {s : AS} {K : AS → Prop} (h : aops P T all (o :: r) s K) : ∃ g, gsem all s o = some g ∧ (g = true → asem P T o s fun s' => aops P T all r s' K) ∧ (g = false → aops P T all r (s.put o.dst .skip) K) := by
  unfold aops at h
  cases hg : gsem all s o with
  | none => rw [hg] at h; exact h.elim
  | some b =>
    rw [hg] at h
    cases b with
    | true => exact ⟨true, rfl, fun _ => h, fun h => by cases h⟩
    | false => exact ⟨false, rfl, fun h => (by cases h), fun _ => h⟩
section
variable {P : Program} {T : Tbl} {N : Nat} {F : Nat → Nat → Prop} {w0 w w' : World} {s : AS} {a : Act} {tok : Tok} {bx : Bx} {o : Oper} {K : AS → Prop} {Kc : Act → World → Prop} {Q : Exit → Act → World → Prop}
theorem aval_sound (hT : T.Ok P) (g : Good P N F w0 s a w tok bx) (hd : ∀ k, o.dst = some k → k < N) (h : aval P T o.op s.eval s.read fun v => K (s.put o.dst v)) (hK : ∀ s' a' w', K s' → R P N F w0 s' a' w' → Kc a' w') : o.wp P a w Kc Q := by
  unfold aval at h
  split at h
  · exact s_move (by assumption) g hd h hK
  · exact s_assign0 (by assumption) g hd h hK
  · obtain ⟨b, hb, h⟩ := ox_iff.1 h
    exact s_pick (by assumption) hb g hd h hK
  · obtain ⟨r, hr, h⟩ := ox_iff.1 h
    exact s_bin (by assumption) hT hr g hd h hK
  · obtain ⟨u, hu, h⟩ := ox_iff.1 h
    obtain ⟨r, hr, h⟩ := ox_iff.1 h
    exact s_un (by assumption) hu hr g hd h hK
  · obtain ⟨z, hz, h⟩ := ox_iff.1 h
    obtain ⟨cs, hcs, h⟩ := ox_iff.1 h
    cases z with
    | none =>
      obtain ⟨c, hc, h⟩ := ox_iff.1 h
      exact s_load1 (by assumption) hT hz hcs hc g hd h hK
    | some n => exact s_loadn (by assumption) hT hz hcs h.1 g hd h.2 hK
  · obtain ⟨off, hoff, h⟩ := ox_iff.1 h
    split at h
    · exact s_fld (by assumption) hT hoff (by assumption) g hd h hK
    · exact s_fldp (by assumption) hT hoff (by assumption) g hd h hK
    · exact h.elim
  · obtain ⟨I, hI, h⟩ := ox_iff.1 h
    obtain ⟨items, hit, h⟩ := ox_iff.1 h
    obtain ⟨n, hn, h0, h⟩ := ox_iff.1 h
    obtain ⟨it, hi, hl, h⟩ := ox_iff.1 h
    exact s_idx (by assumption) hT hI hit hn h0 hi hl g hd h hK
  · obtain ⟨z, hz, h⟩ := ox_iff.1 h
    obtain ⟨pl, hpl, h1, h⟩ := ox_iff.1 h
    obtain ⟨cs, hcs, h⟩ := ox_iff.1 h
    exact s_build (by assumption) hT hz h1 hpl hcs g hd h hK
  · split at h
    · obtain ⟨c, hc, h⟩ := ox_iff.1 h
      exact s_ext (by assumption) (by assumption) hc g hd h hK
    · exact h.elim
  · obtain ⟨r, hr, h⟩ := ox_iff.1 h
    exact s_slice (by assumption) hT hr g hd h hK
  · obtain ⟨k0, hk0, h⟩ := ox_iff.1 h
    obtain ⟨k, hk, h⟩ := ox_iff.1 h
    obtain ⟨n, hn, h⟩ := ox_iff.1 h
    exact s_conv (by assumption) hT hk0 hk hn g hd h hK
  · split at h
    · obtain ⟨t, ht, h⟩ := ox_iff.1 h
      obtain ⟨n, hn, h⟩ := ox_iff.1 h
      exact s_len (by assumption) (by assumption) (by assumption) ht hT hn g hd h hK
    · obtain ⟨m, hm, h⟩ := ox_iff.1 h
      obtain ⟨n, hn, h⟩ := ox_iff.1 h
      exact s_min (by assumption) (by assumption) (by assumption) hm hn g hd h hK
    · obtain ⟨m, hm, h⟩ := ox_iff.1 h
      obtain ⟨n, hn, h⟩ := ox_iff.1 h
      exact s_max (by assumption) (by assumption) (by assumption) hm hn g hd h hK
    · obtain ⟨res, hA, hp, h⟩ := h
      exact s_call (by assumption) (by assumption) (by first | exact hA | (simp only [*]; exact hA)) (by first | exact hp | (simp only [*]; exact hp)) g hd h hK
    · exact h.elim
  · exact h.elim
theorem asem_sound (hT : T.Ok P) (g : Good P N F w0 s a w tok bx) (hd : ∀ k, o.dst = some k → k < N) (h : asem P T o s K) (hK : ∀ s' a' w', K s' → R P N F w0 s' a' w' → Kc a' w') : o.wp P a w Kc Q := by
  unfold asem at h
  split at h
  · split at h
    · rename_i x ho _ _ d i hod hi
      cases hx : isNilO x with
      | true => exact s_assign1 ho hx hod g hd h hK
      | false => rw [hx] at hi; cases hi
    · exact s_assign0 (by assumption) g hd h hK
  · split at h
    · exact s_box (by assumption) (by assumption) h.1 g hd h.2 hK
    · exact h.elim
  · split at h
    · obtain ⟨z, hz, h1, h⟩ := ox_iff.1 h
      exact s_alloc (by assumption) hT hz (by assumption) h1 g hd h hK
    · exact h.elim
  · split at h
    · obtain ⟨z, hz, h⟩ := ox_iff.1 h
      obtain ⟨bs, hbs, h1, h⟩ := ox_iff.1 h
      exact s_store (by assumption) hT (by assumption) hz hbs h1.1 h1.2.1 h1.2.2 g hd h hK
    · exact h.elim
  · split at h
    · obtain ⟨I, hI, h1, h⟩ := ox_iff.1 h
      exact s_bslice (by assumption) hT hI (by assumption) h1.1 h1.2.1 h1.2.2 g hd h hK
    · exact h.elim
  · rename_i c ho
    cases hc : isApp c with
    | false =>
      rw [hc] at h
      exact aval_sound hT g hd (by rw [ho]; exact h) hK
    | true =>
      rw [hc] at h
      have hcal : c.callee = .builtin .append := by
        unfold isApp at hc
        split at hc
        · rfl
        · cases hc
      simp only [cond_true] at h
      split at h
      · split at h
        · obtain ⟨I, hI, h⟩ := ox_iff.1 h
          obtain ⟨I', hI', hsz, h⟩ := ox_iff.1 h
          obtain ⟨news, hn, he, hl, hb, h⟩ := ox_iff.1 h
          rw [Option.bind_eq_some_iff] at hI hI'
          obtain ⟨t, ht, hI⟩ := hI
          obtain ⟨tx, htx, hI'⟩ := hI'
          refine s_app (t := t) (tx := tx) ho hcal (by assumption) ?_ hT hI hI' (by assumption) hn he hl hb g hd h hK
          apply List.ext_getElem?
          intro j
          rcases j with _ | _ | j
          · simpa using ht
          · simpa using htx
          · simp [hsz]
        · exact h.elim
      · exact h.elim
  · exact aval_sound hT g hd h hK
theorem gsem_ok {ops : Array Oper} {b : Bool} (g : Good P N F w0 s a w tok bx) (h : gsem ops.toList s o = some b) : Region.wanted o (yielded ops a.tmps) = b := by
  unfold gsem at h
  unfold Region.wanted
  split at h
  · rename_i hg
    simp only [Option.some.injEq] at h
    simp [hg, h]
  · rename_i j want hg
    simp only [hg]
    rw [Option.bind_eq_some_iff] at h
    obtain ⟨d, hd, h⟩ := h
    unfold AV.said? at h
    split at h
    · rename_i x c hc
      simp only [Option.some.injEq] at h
      subst h
      have hv := rep_lit? (g.slots d) (u := .bool c) (by rw [hc]; rfl)
      have hy : yielded ops a.tmps j = some c := by
        unfold yielded
        rw [Array.getElem?_toList] at hd
        have h1 : a.tmps[d]? = some (.bool c) := by
          rw [Array.getD_eq_getD_getElem?] at hv
          cases hx : a.tmps[d]? with
          | none => rw [hx] at hv; cases hv
          | some y => rw [hx] at hv; exact congrArg some hv
        simp only [hd, Option.bind_some, h1]
      rw [hy]
      rfl
    · rename_i x vs hc
      simp only [Option.some.injEq] at h
      subst h
      have hv := rep_lit? (g.slots d) (u := .tuple vs) (by rw [hc]; rfl)
      have hy : yielded ops a.tmps j = none := by
        unfold yielded
        rw [Array.getElem?_toList] at hd
        simp only [hd, Option.bind_some]
        rw [Array.getD_eq_getD_getElem?] at hv
        cases hx : a.tmps[d]? with
        | none => rfl
        | some y =>
          rw [hx] at hv
          have : y = .tuple vs := hv
          rw [this]
      rw [hy]
      rfl
    · cases h
theorem aops_sound {ops : Array Oper} (hT : T.Ok P) : ∀ (l : List Oper), (∀ o ∈ l, okD N o = true) → ∀ {s : AS} {a : Act} {w : World}, R P N F w0 s a w → aops P T ops.toList l s K → (∀ s' a' w', K s' → R P N F w0 s' a' w' → Q .normal a' w') → wpList P ops Q l a w := by
  intro l
  induction l with
  | nil => intro _ s a w hr h hK; exact wpList_nil (hK s a w h hr)
  | cons o l ih =>
    intro hok s a w hr h hK
    obtain ⟨tok, bx, g⟩ := hr
    obtain ⟨b, hb, h1, h2⟩ := aops_cons h
    have hd : ∀ k, o.dst = some k → k < N := fun k hk => by
      have := hok o (by simp)
      unfold okD at this
      rw [hk] at this
      exact Nat.le_of_ble_eq_true this
    refine wpList_step fun Kc hKc => ?_
    have hw := gsem_ok g hb
    cases b with
    | true =>
      rw [hw, if_pos rfl]
      exact asem_sound hT g hd (h1 rfl) fun s' a' w' hs hr' => hKc _ _ (ih (fun o ho => hok o (by simp [ho])) hr' hs hK)
    | false =>
      rw [hw, if_neg (by simp)]
      exact hKc _ _ (ih (fun o ho => hok o (by simp [ho])) ⟨tok, bx, g.put hd (.of_rep (x := .skip) (Rep.lit undef))⟩ (h2 rfl) hK)
end
end Go.Proofs.Ytpemfmlonamikaa.Av
