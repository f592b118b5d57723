/- Types of integers, texts and booleans alone, in structs and arrays: how their values are told apart, and that they may be keys. Plain: over any program. -/
import Derived.Test.YtheanmfdfoefoaaKit
import Derived.DeepKeys3
set_option linter.unusedVariables false
set_option linter.unusedSimpArgs false
namespace Go.Proofs.Ytheanmfdfoefoaa.Hv
open Go Go.RowKit

/-- A cell's kind. -/
inductive CK where
  | int (k : IntKind)
  | str
  | bool
def ckIs : CK → Value → Bool
  | .int k, .int k' _ => decide (k' = k)
  | .str, .string _ => true
  | .bool, .bool _ => true
  | _, _ => false
def kmatch : List CK → List Value → Bool
  | [], [] => true
  | c :: cs, v :: vs => ckIs c v && kmatch cs vs
  | _, _ => false
/-- Are two cells the same? -/
def veq : Value → Value → Bool
  | .int _ a, .int _ b => a == b
  | .string a, .string b => a.toList == b.toList
  | .bool a, .bool b => a == b
  | _, _ => false
def veqs : List Value → List Value → Bool
  | [], [] => true
  | u :: us, v :: vs => veq u v && veqs us vs
  | _, _ => false
def aggTy (P : Program) (t : Nat) : Bool := match P.underlying t with | some (.struct _) | some (.array _ _) => true | _ => false
def mkV (b : Bool) (us : List Value) : Value := bif b then .agg us.toArray else us.headD undef
def szChk (P : Program) (t : Nat) (ks : List CK) : Option (List CK) := if (P.info? t).map (·.size) = some ks.length then some ks else none
def flatFs (F : Nat → Option (List CK)) : List Field → Nat → Option (List CK)
  | [], _ => some []
  | f :: fs, off => if f.name ≠ "_" ∧ f.offset = off then (match F f.type with
    | some ks => match flatFs F fs (off + ks.length) with
      | some r => some (ks ++ r)
      | none => none
    | none => none) else none
/-- A type's cells, where all are integers, texts and booleans. -/
def flatTy (P : Program) : Nat → Nat → Option (List CK)
  | 0, _ => none
  | n + 1, t => match P.underlying t with
    | some (.int k) => szChk P t [.int k]
    | some .string => szChk P t [.str]
    | some .bool => szChk P t [.bool]
    | some (.array len e) => match flatTy P n e with
      | some ks => szChk P t (List.replicate len ks).flatten
      | none => none
    | some (.struct fs) => if P.stoodInHeld t then none else match flatFs (flatTy P n) fs.toList 0 with
      | some ks => szChk P t ks
      | none => none
    | _ => none
section
variable {P : Program} {w : World}
theorem szChk_some {t : Nat} {ks ks' : List CK} (h : szChk P t ks = some ks') : ks' = ks ∧ ∃ i, P.info? t = some i ∧ i.size = ks.length := by
  unfold szChk at h
  split at h
  · rename_i h'
    simp only [Option.some.injEq] at h
    obtain ⟨i, hi, hs⟩ := Option.map_eq_some_iff.1 h'
    exact ⟨h.symm, i, hi, hs⟩
  · cases h
theorem flat_size : ∀ {n t : Nat} {ks : List CK}, flatTy P n t = some ks → ∃ i, P.info? t = some i ∧ i.size = ks.length := by
  intro n t ks h
  cases n with
  | zero => cases h
  | succ n =>
    unfold flatTy at h
    split at h
    · obtain ⟨rfl, hi⟩ := szChk_some h; exact hi
    · obtain ⟨rfl, hi⟩ := szChk_some h; exact hi
    · obtain ⟨rfl, hi⟩ := szChk_some h; exact hi
    · split at h
      · obtain ⟨rfl, hi⟩ := szChk_some h; exact hi
      · cases h
    · split at h
      · cases h
      · split at h
        · obtain ⟨rfl, hi⟩ := szChk_some h; exact hi
        · cases h
    · cases h
theorem flat_und {n t : Nat} {ks : List CK} (h : flatTy P n t = some ks) : (∃ d, P.underlying t = some d) ∧ (aggTy P t = false → ks.length = 1) := by
  cases n with
  | zero => cases h
  | succ n =>
    unfold flatTy at h
    split at h
    · rename_i hu; obtain ⟨rfl, _⟩ := szChk_some h; exact ⟨⟨_, hu⟩, fun _ => rfl⟩
    · rename_i hu; obtain ⟨rfl, _⟩ := szChk_some h; exact ⟨⟨_, hu⟩, fun _ => rfl⟩
    · rename_i hu; obtain ⟨rfl, _⟩ := szChk_some h; exact ⟨⟨_, hu⟩, fun _ => rfl⟩
    · rename_i hu; exact ⟨⟨_, hu⟩, fun ha => by simp [aggTy, hu] at ha⟩
    · rename_i hu; exact ⟨⟨_, hu⟩, fun ha => by simp [aggTy, hu] at ha⟩
    · cases h
theorem run_isAgg_at {t : Nat} {d : TypeDesc} (h : P.underlying t = some d) : (isAgg t).run P w = .ok (aggTy P t) w := by
  unfold aggTy
  rw [h]
  cases d <;> simp [isAgg, run_underlying h]
/-- A part of a struct, of an array. -/
theorem run_part_flat {n t off : Nat} {ks : List CK} {xs : Array Value} (h : flatTy P n t = some ks) (hl : off + ks.length ≤ xs.size) :
    (part t xs off).run P w = .ok (mkV (aggTy P t) ((xs.toList.drop off).take ks.length)) w := by
  obtain ⟨⟨d, hd⟩, h1⟩ := flat_und h
  obtain ⟨i, hi, hs⟩ := flat_size h
  unfold part
  simp only [Sem.run_bind, run_isAgg_at hd, Result.andThen_ok]
  cases ha : aggTy P t with
  | true =>
    have hsz : (Go.sizeOf t).run P w = .ok ks.length w := by simp [Go.sizeOf, typeInfo, hi, hs]
    simp only [if_true, Sem.run_bind, hsz, Result.andThen_ok, Sem.run_pure, mkV, cond_true]
    congr 2
    apply Array.toList_inj.1
    rw [Array.toList_extract, List.extract_eq_take_drop]
    simp [Nat.add_sub_cancel_left]
  | false =>
    have h1' := h1 ha
    have hlt : off < xs.size := by omega
    simp only [Bool.false_eq_true, if_false, Array.getElem?_eq_getElem hlt, Sem.run_pure, mkV, cond_false, h1']
    congr 1
    have : xs.toList.drop off = xs[off] :: xs.toList.drop (off + 1) := by
      rw [List.drop_eq_getElem_cons (by simpa using hlt)]; simp
    rw [this]; rfl
theorem kmatch_len : ∀ {ks : List CK} {us : List Value}, kmatch ks us = true → us.length = ks.length := by
  intro ks
  induction ks with
  | nil => intro us h; cases us with | nil => rfl | cons _ _ => cases h
  | cons k ks ih =>
    intro us h
    cases us with
    | nil => cases h
    | cons u us =>
      simp only [kmatch, Bool.and_eq_true] at h
      simp [ih h.2]
theorem kmatch_split : ∀ {ks ks' : List CK} {us : List Value}, kmatch (ks ++ ks') us = true → kmatch ks (us.take ks.length) = true ∧ kmatch ks' (us.drop ks.length) = true := by
  intro ks
  induction ks with
  | nil => intro ks' us h; exact ⟨by simp [kmatch], by simpa using h⟩
  | cons k ks ih =>
    intro ks' us h
    cases us with
    | nil => cases h
    | cons u us =>
      simp only [List.cons_append, kmatch, Bool.and_eq_true] at h
      have := ih h.2
      exact ⟨by simp [kmatch, h.1, this.1], by simpa using this.2⟩
theorem veqs_split : ∀ (us vs us' vs' : List Value), us.length = vs.length → veqs (us ++ us') (vs ++ vs') = (veqs us vs && veqs us' vs') := by
  intro us
  induction us with
  | nil => intro vs us' vs' h; cases vs with | nil => simp [veqs] | cons _ _ => simp at h
  | cons u us ih =>
    intro vs us' vs' h
    cases vs with
    | nil => simp at h
    | cons v vs => simp only [List.cons_append, veqs, ih vs us' vs' (by simpa using h), Bool.and_assoc]
/-- Equality at a type: of its cells. -/
def EqFl (P : Program) (d t : Nat) (ks : List CK) : Prop := ∀ (us vs : List Value) (w : World), kmatch ks us = true → kmatch ks vs = true → (Op.equalIn d t (mkV (aggTy P t) us) (mkV (aggTy P t) vs)).run P w = .ok (veqs us vs) w
theorem eqFields_flat {n d : Nat} {xs ys : Array Value} (IH : ∀ t ks, flatTy P n t = some ks → EqFl P d t ks) : ∀ (fs : List Field) (off : Nat) (ks : List CK), flatFs (flatTy P n) fs off = some ks → kmatch ks (xs.toList.drop off) = true → kmatch ks (ys.toList.drop off) = true →
    (Op.eqFields d xs ys fs).run P w = .ok (veqs (xs.toList.drop off) (ys.toList.drop off)) w := by
  intro fs
  induction fs with
  | nil =>
    intro off ks h hx hy
    simp only [flatFs, Option.some.injEq] at h
    subst h
    have e1 : xs.toList.drop off = [] := List.eq_nil_of_length_eq_zero (kmatch_len hx)
    have e2 : ys.toList.drop off = [] := List.eq_nil_of_length_eq_zero (kmatch_len hy)
    rw [e1, e2]
    simp [Op.eqFields, veqs]
  | cons f fs ih =>
    intro off ks h hx hy
    unfold flatFs at h
    split at h
    · rename_i hn
      obtain ⟨hn, ho⟩ := hn
      split at h
      · rename_i k1 hk1
        split at h
        · rename_i k2 hk2
          simp only [Option.some.injEq] at h
          subst h
          obtain ⟨hx1, hx2⟩ := kmatch_split hx
          obtain ⟨hy1, hy2⟩ := kmatch_split hy
          have hxl := kmatch_len hx
          have hyl := kmatch_len hy
          simp only [List.length_drop, Array.length_toList, List.length_append] at hxl hyl
          have hb : k1.length + k2.length ≤ xs.size - off := by omega
          rw [List.drop_drop] at hx2 hy2
          have eq1 := IH _ _ hk1 _ _ w hx1 hy1
          have rest := ih (off + k1.length) k2 hk2 hx2 hy2
          have sp : veqs (xs.toList.drop off) (ys.toList.drop off) = (veqs ((xs.toList.drop off).take k1.length) ((ys.toList.drop off).take k1.length) && veqs (xs.toList.drop (off + k1.length)) (ys.toList.drop (off + k1.length))) := by
            rw [← veqs_split _ _ _ _ (by simp; omega), ← List.drop_drop, ← List.drop_drop, List.take_append_drop, List.take_append_drop]
          have hx0 : off + k1.length ≤ xs.size ∨ k1.length = 0 := by omega
          have hy0 : off + k1.length ≤ ys.size ∨ k1.length = 0 := by omega
          have px : (part f.type xs f.offset).run P w = .ok (mkV (aggTy P f.type) ((xs.toList.drop off).take k1.length)) w := by
            rw [ho]
            rcases hx0 with h0 | h0
            · exact run_part_flat hk1 h0
            · rcases Nat.lt_or_ge xs.size (off + k1.length) with h9 | h9
              · have hz : k1 = [] := List.eq_nil_of_length_eq_zero h0
                subst hz
                obtain ⟨⟨d1, hd1⟩, h11⟩ := flat_und hk1
                obtain ⟨i, hi, hs⟩ := flat_size hk1
                have hag : aggTy P f.type = true := by
                  cases ha : aggTy P f.type with
                  | true => rfl
                  | false => have := h11 ha; simp at this
                have hsz : (Go.sizeOf f.type).run P w = .ok 0 w := by simp [Go.sizeOf, typeInfo, hi, hs]
                unfold part
                simp only [Sem.run_bind, run_isAgg_at hd1, Result.andThen_ok, hag, if_true, hsz, Sem.run_pure, mkV, cond_true]
                congr 2
                apply Array.toList_inj.1
                simp
              · exact run_part_flat hk1 h9
          have py : (part f.type ys f.offset).run P w = .ok (mkV (aggTy P f.type) ((ys.toList.drop off).take k1.length)) w := by
            rw [ho]
            rcases hy0 with h0 | h0
            · exact run_part_flat hk1 h0
            · rcases Nat.lt_or_ge ys.size (off + k1.length) with h9 | h9
              · have hz : k1 = [] := List.eq_nil_of_length_eq_zero h0
                subst hz
                obtain ⟨⟨d1, hd1⟩, h11⟩ := flat_und hk1
                obtain ⟨i, hi, hs⟩ := flat_size hk1
                have hag : aggTy P f.type = true := by
                  cases ha : aggTy P f.type with
                  | true => rfl
                  | false => have := h11 ha; simp at this
                have hsz : (Go.sizeOf f.type).run P w = .ok 0 w := by simp [Go.sizeOf, typeInfo, hi, hs]
                unfold part
                simp only [Sem.run_bind, run_isAgg_at hd1, Result.andThen_ok, hag, if_true, hsz, Sem.run_pure, mkV, cond_true]
                congr 2
                apply Array.toList_inj.1
                simp
              · exact run_part_flat hk1 h9
          rw [sp]
          simp only [Op.eqFields, hn, ne_eq, not_false_eq_true, if_true, Sem.run_bind, px, py, Result.andThen_ok, eq1]
          cases veqs ((xs.toList.drop off).take k1.length) ((ys.toList.drop off).take k1.length) with
          | true => simp [rest]
          | false => simp
        · cases h
      · cases h
    · cases h
theorem eqItems_flat {d e : Nat} {xs ys : Array Value} {ks : List CK} {n : Nat} (he : flatTy P n e = some ks) (IH : EqFl P d e ks) : ∀ (m j : Nat), kmatch (List.replicate m ks).flatten (xs.toList.drop (j * ks.length)) = true → kmatch (List.replicate m ks).flatten (ys.toList.drop (j * ks.length)) = true →
    (Op.eqItems d e ks.length xs ys (List.range' j m)).run P w = .ok (veqs (xs.toList.drop (j * ks.length)) (ys.toList.drop (j * ks.length))) w := by
  intro m
  induction m with
  | zero =>
    intro j hx hy
    have e1 : xs.toList.drop (j * ks.length) = [] := List.eq_nil_of_length_eq_zero (by have := kmatch_len hx; simpa using this)
    have e2 : ys.toList.drop (j * ks.length) = [] := List.eq_nil_of_length_eq_zero (by have := kmatch_len hy; simpa using this)
    rw [e1, e2]
    simp [Op.eqItems, veqs]
  | succ m ih =>
    intro j hx hy
    rw [List.replicate_succ, List.flatten_cons] at hx hy
    obtain ⟨hx1, hx2⟩ := kmatch_split hx
    obtain ⟨hy1, hy2⟩ := kmatch_split hy
    rw [List.drop_drop, show j * ks.length + ks.length = (j + 1) * ks.length from by rw [Nat.succ_mul]] at hx2 hy2
    have hxl := kmatch_len hx1
    have hyl := kmatch_len hy1
    have hxd : (xs.toList.drop (j * ks.length)).length = xs.size - j * ks.length := by simp
    have hyd : (ys.toList.drop (j * ks.length)).length = ys.size - j * ks.length := by simp
    rw [List.length_take] at hxl hyl
    have rest := ih (j + 1) hx2 hy2
    have sp : veqs (xs.toList.drop (j * ks.length)) (ys.toList.drop (j * ks.length)) = (veqs ((xs.toList.drop (j * ks.length)).take ks.length) ((ys.toList.drop (j * ks.length)).take ks.length) && veqs (xs.toList.drop ((j + 1) * ks.length)) (ys.toList.drop ((j + 1) * ks.length))) := by
      rw [← veqs_split _ _ _ _ (by simp only [List.length_take]; omega), Nat.succ_mul, ← List.drop_drop, ← List.drop_drop, List.take_append_drop, List.take_append_drop]
    have pp : ∀ (zs : Array Value), min ks.length (zs.toList.drop (j * ks.length)).length = ks.length → (part e zs (j * ks.length)).run P w = .ok (mkV (aggTy P e) ((zs.toList.drop (j * ks.length)).take ks.length)) w := fun zs hz => by
      have hz' : (zs.toList.drop (j * ks.length)).length = zs.size - j * ks.length := by simp
      rcases Nat.lt_or_ge zs.size (j * ks.length + ks.length) with h9 | h9
      · have h0 : ks.length = 0 := by omega
        have hz : ks = [] := List.eq_nil_of_length_eq_zero h0
        subst hz
        obtain ⟨⟨d1, hd1⟩, h11⟩ := flat_und he
        obtain ⟨i, hi, hs⟩ := flat_size he
        have hag : aggTy P e = true := by
          cases ha : aggTy P e with
          | true => rfl
          | false => have := h11 ha; simp at this
        have hsz : (Go.sizeOf e).run P w = .ok 0 w := by simp [Go.sizeOf, typeInfo, hi, hs]
        unfold part
        simp only [Sem.run_bind, run_isAgg_at hd1, Result.andThen_ok, hag, if_true, hsz, Sem.run_pure, mkV, cond_true]
        congr 2
        apply Array.toList_inj.1
        simp
      · exact run_part_flat he h9
    rw [sp, List.range'_succ]
    simp only [Op.eqItems, Sem.run_bind, pp xs hxl, pp ys hyl, Result.andThen_ok, IH _ _ w hx1 hy1]
    cases veqs ((xs.toList.drop (j * ks.length)).take ks.length) ((ys.toList.drop (j * ks.length)).take ks.length) with
    | true => simp [rest]
    | false => simp
theorem eq_flat : ∀ (n d t : Nat) (ks : List CK), flatTy P n t = some ks → EqFl P (d + n) t ks := by
  intro n
  induction n with
  | zero => intro d t ks h; cases h
  | succ n ih =>
    intro d t ks h us vs w hu hv
    rw [show d + (n + 1) = (d + n) + 1 from rfl]
    unfold flatTy at h
    split at h
    · rename_i k hk
      obtain ⟨rfl, _⟩ := szChk_some h
      have ha : aggTy P t = false := by simp [aggTy, hk]
      rw [ha]
      match us, vs, hu, hv with
      | [.int k1 a], [.int k2 b], hu, hv =>
        simp only [kmatch, ckIs, Bool.and_true, decide_eq_true_eq] at hu hv
        subst hu hv
        simp [mkV, Op.equalIn, run_underlying hk, veqs, veq]
      | [], _, hu, _ => cases hu
      | _ :: _ :: _, _, hu, _ => simp [kmatch] at hu
      | [_], [], _, hv => cases hv
      | [_], _ :: _ :: _, _, hv => simp [kmatch] at hv
    · rename_i hk
      obtain ⟨rfl, _⟩ := szChk_some h
      have ha : aggTy P t = false := by simp [aggTy, hk]
      rw [ha]
      match us, vs, hu, hv with
      | [.string a], [.string b], hu, hv => simp [mkV, run_equalIn_string w _ t a b hk, veqs, veq]
      | [], _, hu, _ => cases hu
      | _ :: _ :: _, _, hu, _ => simp [kmatch] at hu
      | [_], [], _, hv => cases hv
      | [_], _ :: _ :: _, _, hv => simp [kmatch] at hv
    · rename_i hk
      obtain ⟨rfl, _⟩ := szChk_some h
      have ha : aggTy P t = false := by simp [aggTy, hk]
      rw [ha]
      match us, vs, hu, hv with
      | [.bool a], [.bool b], hu, hv => simp [mkV, run_equalIn_bool w _ t a b hk, veqs, veq]
      | [], _, hu, _ => cases hu
      | _ :: _ :: _, _, hu, _ => simp [kmatch] at hu
      | [_], [], _, hv => cases hv
      | [_], _ :: _ :: _, _, hv => simp [kmatch] at hv
    · rename_i len e hk
      split at h
      · rename_i ke he
        obtain ⟨rfl, _⟩ := szChk_some h
        have ha : aggTy P t = true := by simp [aggTy, hk]
        obtain ⟨i, hi, hs⟩ := flat_size he
        have hc : P.cellsOf e = ke.length := by simp [Program.cellsOf, hi, hs]
        rw [ha]
        simp only [mkV, cond_true]
        rw [run_equalIn_array w _ _ _ hk hi, hc, List.range_eq_range']
        have := eqItems_flat (w := w) (xs := us.toArray) (ys := vs.toArray) he (ih d e ke he) len 0 (by simpa using hu) (by simpa using hv)
        simpa using this
      · cases h
    · rename_i fs hk
      split at h
      · cases h
      · rename_i hst
        split at h
        · rename_i k1 hf
          obtain ⟨rfl, _⟩ := szChk_some h
          have ha : aggTy P t = true := by simp [aggTy, hk]
          have hfo : P.fieldsOf t = fs := by simp [Program.fieldsOf, hk]
          rw [ha]
          simp only [mkV, cond_true]
          rw [run_equalIn_struct w _ t _ _ (by rw [hfo]; exact hk) (by simpa using hst), hfo]
          have := eqFields_flat (w := w) (xs := us.toArray) (ys := vs.toArray) (fun t ks h => ih d t ks h) fs.toList 0 ks hf (by simpa using hu) (by simpa using hv)
          simpa using this
        · cases h
    · cases h
/-- Such a value may be a key. -/
def CkFl (P : Program) (em : Bool) (d t : Nat) (ks : List CK) : Prop := ∀ (us : List Value) (w : World), kmatch ks us = true → (Instr.checkKey em d t (mkV (aggTy P t) us)).run P w = .ok () w
theorem part_any {n t off : Nat} {ks : List CK} {xs : Array Value} (h : flatTy P n t = some ks) (hk : kmatch ks ((xs.toList.drop off).take ks.length) = true) : (part t xs off).run P w = .ok (mkV (aggTy P t) ((xs.toList.drop off).take ks.length)) w := by
  have hl := kmatch_len hk
  rw [List.length_take] at hl
  have hd : (xs.toList.drop off).length = xs.size - off := by simp
  rcases Nat.lt_or_ge xs.size (off + ks.length) with h9 | h9
  · have h0 : ks.length = 0 := by omega
    have hz : ks = [] := List.eq_nil_of_length_eq_zero h0
    subst hz
    obtain ⟨⟨d1, hd1⟩, h11⟩ := flat_und h
    obtain ⟨i, hi, hs⟩ := flat_size h
    have hag : aggTy P t = true := by
      cases ha : aggTy P t with
      | true => rfl
      | false => have := h11 ha; simp at this
    have hsz : (Go.sizeOf t).run P w = .ok 0 w := by simp [Go.sizeOf, typeInfo, hi, hs]
    unfold part
    simp only [Sem.run_bind, run_isAgg_at hd1, Result.andThen_ok, hag, if_true, hsz, Sem.run_pure, mkV, cond_true]
    congr 2
    apply Array.toList_inj.1
    simp
  · exact run_part_flat h h9
theorem ck_flat (em : Bool) : ∀ (n d t : Nat) (ks : List CK), flatTy P n t = some ks → CkFl P em (d + n) t ks := by
  intro n
  induction n with
  | zero => intro d t ks h; cases h
  | succ n ih =>
    intro d t ks h us w hu
    rw [show d + (n + 1) = (d + n) + 1 from rfl]
    unfold flatTy at h
    split at h
    · rename_i k hk; simp [Instr.checkKey, run_underlying hk]
    · rename_i hk; simp [Instr.checkKey, run_underlying hk]
    · rename_i hk; simp [Instr.checkKey, run_underlying hk]
    · rename_i len e hk
      split at h
      · rename_i ke he
        obtain ⟨rfl, _⟩ := szChk_some h
        have ha : aggTy P t = true := by simp [aggTy, hk]
        obtain ⟨i, hi, hs⟩ := flat_size he
        rw [ha]
        simp only [mkV, cond_true]
        rw [Instr.checkKey]
        simp only [Sem.run_bind, run_underlying hk, Result.andThen_ok]
        simp only [Std.Legacy.Range.forIn_eq_forIn_range', Std.Legacy.Range.size, Nat.sub_zero, Nat.add_one_sub_one, Nat.div_one]
        have hso : ∀ w : World, (Go.sizeOf e).run P w = .ok ke.length w := fun w => by simp [Go.sizeOf, typeInfo, hi, hs]
        have key : ∀ (m j : Nat), kmatch (List.replicate m ke).flatten (us.drop (j * ke.length)) = true → ((forIn (List.range' j m) PUnit.unit fun i _ => do
            Instr.checkKey em (d + n) e (← part e us.toArray (i * (← Go.sizeOf e)))
            pure (ForInStep.yield PUnit.unit)) : Sem PUnit).run P w = .ok PUnit.unit w := by
          intro m
          induction m with
          | zero => intro j _; simp
          | succ m ihm =>
            intro j hj
            rw [List.replicate_succ, List.flatten_cons] at hj
            obtain ⟨h1, h2⟩ := kmatch_split hj
            rw [List.drop_drop, show j * ke.length + ke.length = (j + 1) * ke.length from by rw [Nat.succ_mul]] at h2
            have p1 := part_any (w := w) (xs := us.toArray) (off := j * ke.length) he (by simpa using h1)
            have p2 := ih d e ke he _ w (by simpa using h1)
            simp only [List.range'_succ, List.forIn_cons, Sem.run_bind, hso, Result.andThen_ok, p1, Sem.run_pure]
            rw [p2]
            exact ihm (j + 1) h2
        rw [key len 0 (by simpa using hu)]
        rfl
      · cases h
    · rename_i fs hk
      split at h
      · cases h
      · split at h
        · rename_i k1 hf
          obtain ⟨rfl, _⟩ := szChk_some h
          have ha : aggTy P t = true := by simp [aggTy, hk]
          rw [ha]
          simp only [mkV, cond_true]
          rw [Instr.checkKey]
          simp only [Sem.run_bind, run_underlying hk, Result.andThen_ok]
          rw [← Array.forIn_toList]
          have key : ∀ (L : List Field) (off : Nat) (k2 : List CK), flatFs (flatTy P n) L off = some k2 → kmatch k2 (us.drop off) = true → ((forIn L PUnit.unit fun f _ => do
              if f.name ≠ "_" then do
                Instr.checkKey em (d + n) f.type (← part f.type us.toArray f.offset)
                pure (ForInStep.yield PUnit.unit)
              else pure (ForInStep.yield PUnit.unit)) : Sem PUnit).run P w = .ok PUnit.unit w := by
            intro L
            induction L with
            | nil => intro off k2 _ _; simp
            | cons f L ihL =>
              intro off k2 hfl hkm
              unfold flatFs at hfl
              split at hfl
              · rename_i hn
                obtain ⟨hn, ho⟩ := hn
                split at hfl
                · rename_i ka hka
                  split at hfl
                  · rename_i kb hkb
                    simp only [Option.some.injEq] at hfl
                    subst hfl
                    obtain ⟨h1, h2⟩ := kmatch_split hkm
                    rw [List.drop_drop] at h2
                    have p1 := part_any (w := w) (xs := us.toArray) (off := off) hka (by simpa using h1)
                    have p2 := ih d f.type ka hka _ w (by simpa using h1)
                    simp only [List.forIn_cons, Sem.run_bind, hn, ne_eq, not_false_eq_true, if_true, ho, Result.andThen_ok, p1, Sem.run_pure]
                    rw [p2]
                    exact ihL (off + ka.length) kb hkb h2
                  · cases hfl
                · cases hfl
              · cases hfl
          rw [key fs.toList 0 ks hf (by simpa using hu)]
          rfl
        · cases h
    · cases h
theorem sameBits_flat : ∀ {ks : List CK} {us : List Value}, kmatch ks us = true → Instr.sameBits 10000 (.agg us.toArray) (.agg us.toArray) = true := by
  intro ks us h
  show Instr.sameBits (9999 + 1) (.agg us.toArray) (.agg us.toArray) = true
  simp only [Instr.sameBits, beq_self_eq_true, Bool.true_and]
  induction ks generalizing us with
  | nil => cases us with | nil => rfl | cons _ _ => cases h
  | cons k ks ih =>
    cases us with
    | nil => cases h
    | cons u us =>
      simp only [kmatch, Bool.and_eq_true] at h
      simp only [List.zip_cons_cons, List.all_cons, Bool.and_eq_true]
      refine ⟨?_, ih h.2⟩
      have h1 := h.1
      unfold ckIs at h1
      split at h1 <;> first | (cases h1; done) | (simp [Instr.sameBits]; done) | (rename_i s; simp only [Instr.sameBits]; exact (Go.MapKept.bytes_beq s s).2 rfl)
theorem veqs_same : ∀ {ks : List CK} {us vs : List Value}, kmatch ks us = true → kmatch ks vs = true → veqs us vs = true → us = vs := by
  intro ks
  induction ks with
  | nil => intro us vs h h' _; cases us <;> cases vs <;> first | rfl | (cases h; done) | (cases h'; done)
  | cons k ks ih =>
    intro us vs h h' he
    cases us with
    | nil => cases h
    | cons u us =>
      cases vs with
      | nil => cases h'
      | cons v vs =>
        simp only [kmatch, veqs, Bool.and_eq_true] at h h' he
        rw [ih h.2 h'.2 he.2]
        congr 1
        have h1 := h.1
        have h2 := h'.1
        have h3 := he.1
        cases k <;> cases u <;> simp only [ckIs, Bool.false_eq_true] at h1 <;> cases v <;> simp only [ckIs, Bool.false_eq_true] at h2
        · simp only [decide_eq_true_eq] at h1 h2
          subst h1 h2
          simp only [veq, beq_iff_eq] at h3
          rw [h3]
        · simp only [veq, beq_iff_eq] at h3
          rw [ByteArray.toList_eq, ByteArray.toList_eq] at h3
          rename_i a b
          obtain ⟨⟨a⟩⟩ := a
          obtain ⟨⟨b⟩⟩ := b
          have : a = b := h3
          rw [this]
        · simp only [veq, beq_iff_eq] at h3
          rw [h3]
end
end Go.Proofs.Ytheanmfdfoefoaa.Hv
