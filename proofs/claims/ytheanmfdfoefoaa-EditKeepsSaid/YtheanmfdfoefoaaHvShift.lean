/- A walk over an empty heap is a walk over any heap: the numbers are shifted. Plain: over any program. -/
import Derived.Test.YtheanmfdfoefoaaHvNew
set_option linter.unusedVariables false
set_option linter.unusedSimpArgs false
namespace Go.Proofs.Ytheanmfdfoefoaa.Hv
open Go Go.RowKit
mutual
/-- All numbers are raised. -/
def AV.sh (n : Nat) : AV → AV
  | .lit v => .lit v
  | .agg cs => .agg (shL n cs)
  | .tup vs => .tup (shL n vs)
  | .sl items => .sl (shLL n items)
  | .ref cs => .ref (shL n cs)
  | .rw id sz ko len => .rw (id + n) sz ko len
  | .ptr id off => .ptr (id + n) off
  | .el id sz k off => .el (id + n) sz k off
  | .mp id => .mp (id + n)
  | .ra id off len => .ra (id + n) off len
  | .fn f caps => .fn f (shL n caps)
  | .dead => .dead
  | .rc id sz len c => .rc (id + n) sz len c
  | .ec id sz k => .ec (id + n) sz k
def shL (n : Nat) : List AV → List AV
  | [] => []
  | c :: cs => c.sh n :: shL n cs
def shLL (n : Nat) : List (List AV) → List (List AV)
  | [] => []
  | c :: cs => shL n c :: shLL n cs
end
theorem shL_map (n : Nat) (l : List AV) : shL n l = l.map (AV.sh n) := by
  induction l with
  | nil => rfl
  | cons a l ih => rw [shL, ih]; rfl
theorem shLL_map (n : Nat) (l : List (List AV)) : shLL n l = l.map fun it => it.map (AV.sh n) := by
  induction l with
  | nil => rfl
  | cons a l ih => rw [shLL, ih, shL_map]; rfl
theorem shLL_flat (n : Nat) (l : List (List AV)) : (shLL n l).flatten = l.flatten.map (AV.sh n) := by
  rw [shLL_map, List.map_flatten]
theorem shLL_len (n : Nat) (l : List (List AV)) : (shLL n l).length = l.length := by rw [shLL_map, List.length_map]
theorem shL_len (n : Nat) (l : List AV) : (shL n l).length = l.length := by rw [shL_map, List.length_map]
theorem shL_at {n j : Nat} {l : List AV} {y : AV} (h : (shL n l)[j]? = some y) : ∃ x, l[j]? = some x ∧ y = x.sh n := by
  rw [shL_map, List.getElem?_map, Option.map_eq_some_iff] at h
  obtain ⟨x, h1, h2⟩ := h
  exact ⟨x, h1, h2.symm⟩
theorem shF_at {n j : Nat} {l : List (List AV)} {y : AV} (h : (shLL n l).flatten[j]? = some y) : ∃ x, l.flatten[j]? = some x ∧ y = x.sh n := by
  rw [shLL_flat, List.getElem?_map, Option.map_eq_some_iff] at h
  obtain ⟨x, h1, h2⟩ := h
  exact ⟨x, h1, h2.symm⟩
theorem shLL_mem {n k : Nat} {l : List (List AV)} (h : ∀ it ∈ l, it.length = k) : ∀ it ∈ shLL n l, it.length = k := by
  intro it hit
  rw [shLL_map] at hit
  obtain ⟨x, hx, rfl⟩ := List.mem_map.1 hit
  rw [List.length_map]; exact h x hx
def AO.sh (n : Nat) : AO → AO
  | .cells cs => .cells (shL n cs)
  | .row m e items => .row m e (shLL n items)
  | .frz e items => .frz e (shLL n items)
  | .map es clock => .map (es.map fun e => ⟨e.key.sh n, e.val.sh n, e.born⟩) clock
  | .iter m since seen last => .iter (m.map (· + n)) since seen last
/-- The one heap, and the other one behind it. -/
def besideH (H : Hp) (n : Nat) (Hi : Hp) : Hp := fun j => if j < n then H j else (Hi (j - n)).map (AO.sh n)
def besideG (gb : Gb) (n : Nat) (gi : Gb) : Gb := fun j => if j < n then gb j else gi (j - n)
section
variable {P : Program} {F W : Nat → Nat → Prop} {w w' : World} {gb gi gb' : Gb} {H Hi : Hp} {n ni : Nat}
theorem Rep.sh {x : AV} {v : Value} (h : Rep w W gi x v) (hg : ∀ id p, gi id = some p → gb' (id + n) = some p) : Rep w W gb' (x.sh n) v := by
  induction h with
  | lit v => exact .lit v
  | agg cs vs hl h1 _ ih => exact .agg _ vs (by rw [shL_len]; exact hl) h1 fun j c u hc hu => by obtain ⟨x, hx, rfl⟩ := shL_at hc; exact ih j x u hx hu
  | tup cs vs hl _ ih => exact .tup _ vs (by rw [shL_len]; exact hl) fun j c u hc hu => by obtain ⟨x, hx, rfl⟩ := shL_at hc; exact ih j x u hx hu
  | sl items sz A c b off val hi hc hm ha hcell hF h1 _ ih =>
    have := Rep.sl (w := w) (W := W) (gb := gb') (shLL n items) sz A c b off val (shLL_mem hi) (by rw [shLL_len]; exact hc) hm (fun hne => ha fun e => hne (by rw [e]; rfl)) (fun j x hx => by obtain ⟨y, hy, _⟩ := shF_at hx; exact hcell j y hy) (fun j x hx => by obtain ⟨y, hy, _⟩ := shF_at hx; exact hF j y hy) (fun j x hx => by obtain ⟨y, hy, _⟩ := shF_at hx; exact h1 j y hy) (fun j x hx => by obtain ⟨y, hy, rfl⟩ := shF_at hx; exact ih j y hy)
    rw [shLL_len] at this
    exact this
  | ref cs b off val hcell hF h1 _ ih =>
    exact .ref _ b off val (fun j x hx => by obtain ⟨y, hy, _⟩ := shL_at hx; exact hcell j y hy) (fun j x hx => by obtain ⟨y, hy, _⟩ := shL_at hx; exact hF j y hy) (fun j x hx => by obtain ⟨y, hy, _⟩ := shL_at hx; exact h1 j y hy) (fun j x hx => by obtain ⟨y, hy, rfl⟩ := shL_at hx; exact ih j y hy)
  | rw id sz ko len g size c hg' hs hc hm => exact .rw _ sz ko len g size c (hg _ _ hg') hs hc hm
  | rwn id sz => exact .rwn _ sz
  | rwz id sz ko off g size hg' => exact .rwz _ sz ko off g size (hg _ _ hg')
  | ptr id off g size hg' => exact .ptr _ off g size (hg _ _ hg')
  | el id sz k off g size hg' => exact .el _ sz k off g size (hg _ _ hg')
  | mp id g size hg' => exact .mp _ g size (hg _ _ hg')
  | ra id off len c g size hg' hc hm => exact .ra _ off len c g size (hg _ _ hg') hc hm
  | raz id off off2 g size hg' => exact .raz _ off off2 g size (hg _ _ hg')
  | fn f cs vs hl _ ih => exact .fn f _ vs (by rw [shL_len]; exact hl) fun j c u hc hu => by obtain ⟨x, hx, rfl⟩ := shL_at hc; exact ih j x u hx hu
  | dead v => exact .dead v
  | rc id sz len c g size hg' hs hc hm => exact .rc _ sz len c g size (hg _ _ hg') hs hc hm
  | rcn id sz => exact .rcn _ sz
  | rcz id sz off g size hg' => exact .rcz _ sz off g size (hg _ _ hg')
  | ec id sz k g size hg' hs => exact .ec _ sz k g size (hg _ _ hg') hs
theorem RepL.sh {cs : List AV} {us : List Value} (h : RepL w W gi cs us) (hg : ∀ id p, gi id = some p → gb' (id + n) = some p) : RepL w W gb' (shL n cs) us :=
  ⟨by rw [shL_len]; exact h.len, h.one, fun j c u hc hu => by obtain ⟨x, hx, rfl⟩ := shL_at hc; exact (h.rep j x u hx hu).sh hg⟩
theorem RepL.shF {items : List (List AV)} {us : List Value} (h : RepL w W gi items.flatten us) (hg : ∀ id p, gi id = some p → gb' (id + n) = some p) : RepL w W gb' (shLL n items).flatten us := by
  have := h.sh (n := n) hg
  rw [shL_map, ← shLL_flat] at this
  exact this
theorem ObjRep.sh {g size : Nat} {o : AO} (h : ObjRep P w W gi g size o) (hg : ∀ id p, gi id = some p → gb' (id + n) = some p) : ObjRep P w W gb' g size (o.sh n) := by
  have hfl : ∀ items : List (List AV), (shLL n items).flatten.length = items.flatten.length := fun items => by rw [shLL_flat, List.length_map]
  cases o with
  | cells cs =>
    obtain ⟨cur, e, fr, h1, hf, h2, h3⟩ := h
    exact ⟨cur, e, fr, h1, hf, h2, h3.sh hg⟩
  | row m e items =>
    obtain ⟨h0, cur, fr, h1, hf, h2, h3, h4⟩ := h
    exact ⟨shLL_mem h0, cur, fr, h1, hf, h2, by rw [hfl]; exact h3, by rw [hfl]; exact h4.shF hg⟩
  | frz e items =>
    obtain ⟨h0, cur, fr, h1, hf, h2, h3, h4, h5⟩ := h
    exact ⟨shLL_mem h0, cur, fr, h1, hf, h2, by rw [hfl]; exact h3, by rw [hfl]; exact h4.shF hg, fun o ho => h5 o (by rw [hfl] at ho; exact ho)⟩
  | map es clock =>
    obtain ⟨ents, h1, h2, h3⟩ := h
    refine ⟨ents, h1, by rw [List.length_map]; exact h2, fun j e x hj hx => ?_⟩
    rw [List.getElem?_map, Option.map_eq_some_iff] at hj
    obtain ⟨e', he', rfl⟩ := hj
    exact ⟨(h3 j e' x he' hx).born, (h3 j e' x he' hx).key.sh hg, (h3 j e' x he' hx).val.sh hg⟩
  | iter m since seen last =>
    obtain ⟨mb, h1, h2⟩ := h
    refine ⟨mb, ?_, h2⟩
    cases m with
    | none => cases mb with
      | none => trivial
      | some g => exact h1.elim
    | some i => cases mb with
      | none => exact h1.elim
      | some g => obtain ⟨s, hs⟩ := h1; exact ⟨s, hg _ _ hs⟩
theorem wrO_sh (o : Option AO) (k : Nat) : wrO (o.map (AO.sh n)) k ↔ wrO o k := by
  match o with
  | none => exact Iff.rfl
  | some (.cells _) => exact Iff.rfl
  | some (.row true _ _) => exact Iff.rfl
  | some (.row false _ items) =>
    show (shLL n items).flatten.length ≤ k ↔ items.flatten.length ≤ k
    rw [shLL_flat, List.length_map]
  | some (.frz _ _) => exact Iff.rfl
  | some (.map _ _) => exact Iff.rfl
  | some (.iter _ _ _ _) => exact Iff.rfl
theorem exO_sh (o : Option AO) : exO (o.map (AO.sh n)) ↔ exO o := by
  match o with
  | none => exact Iff.rfl
  | some (.cells _) => exact Iff.rfl
  | some (.row _ _ _) => exact Iff.rfl
  | some (.frz _ _) => exact Iff.rfl
  | some (.map _ _) => exact Iff.rfl
  | some (.iter _ _ _ _) => exact Iff.rfl
theorem beside_wh (hlt : ∀ id p, gb id = some p → id < n) {b o : Nat} : Wh (besideG gb n gi) (besideH H n Hi) b o ↔ Wh gb H b o ∨ Wh gi Hi b o := by
  constructor
  · rintro ⟨id, s, h1, h2⟩
    unfold besideG at h1
    unfold besideH at h2
    by_cases h : id < n
    · rw [if_pos h] at h1 h2; exact .inl ⟨id, s, h1, h2⟩
    · rw [if_neg h] at h1 h2; exact .inr ⟨id - n, s, h1, (wrO_sh _ _).1 h2⟩
  · rintro (⟨id, s, h1, h2⟩ | ⟨id, s, h1, h2⟩)
    · have h := hlt _ _ h1
      exact ⟨id, s, by unfold besideG; rw [if_pos h]; exact h1, by unfold besideH; rw [if_pos h]; exact h2⟩
    · refine ⟨id + n, s, ?_, ?_⟩
      · unfold besideG; rw [if_neg (by omega), Nat.add_sub_cancel]; exact h1
      · unfold besideH; rw [if_neg (by omega), Nat.add_sub_cancel]; exact (wrO_sh _ _).2 h2
theorem beside_xh {b : Nat} (h : Xh (besideG gb n gi) (besideH H n Hi) b) : Xh gb H b ∨ Xh gi Hi b := by
  obtain ⟨id, s, h1, h2⟩ := h
  unfold besideG at h1
  unfold besideH at h2
  by_cases h : id < n
  · rw [if_pos h] at h1 h2; exact .inl ⟨id, s, h1, h2⟩
  · rw [if_neg h] at h1 h2; exact .inr ⟨id - n, s, h1, (exO_sh _).1 h2⟩
/-- What is said of a call over an empty heap is so over any heap. -/
theorem hcalls_beside {f : FuncId} {xs : List AV} {Post : AV → Hp → Nat → Prop} (hna : ∀ x ∈ xs, NoId x) (h : HCalls P f xs (fun _ => none) 0 Post) :
    HCalls P f xs H n fun r H' n' => ∃ r0 Hi ni, Post r0 Hi ni ∧ r = r0.sh n ∧ H' = besideH H n Hi ∧ n' = n + ni := by
  refine ⟨h.1, fun w F gb vs hok hl hr => ?_⟩
  have hnw : ∀ b o, ¬ Wh (fun _ => none) (fun _ => none) b o := fun b o ⟨_, _, h, _⟩ => by cases h
  have hnx : ∀ b, ¬ Xh (fun _ => none) (fun _ => none) b := fun b ⟨_, _, h, _⟩ => by cases h
  have hF' : ∀ b o, Wr F gb H b o → b < w.heap.size := fun b o hw => by
    rcases hw with hf | ⟨id, s, h1, _⟩
    · exact hok.FB b o hf
    · exact (hok.lt id b s h1).2
  have hheap : HeapOk P w (Wr F gb H) (fun _ => none) (fun _ => none) 0 := ⟨fun _ _ _ h => (by cases h), fun _ _ => rfl, fun _ _ h => (by cases h), fun _ _ _ _ _ h => (by cases h), hF', fun _ _ _ ⟨_, _, h, _⟩ => (by cases h)⟩
  have hlt : ∀ id p, gb id = some p → id < n := fun id p hp => (hok.lt id p.1 p.2 hp).1
  refine (h.2 w (Wr F gb H) (fun _ => none) vs hheap hl fun j x v hx hv => ?_).mono fun e w' ⟨v, r, Hi, ni, gi, hd⟩ => ?_
  · refine ((hr j x v hx hv).noId (hna x (List.mem_of_getElem? hx))).keep (fun b o u hn hc => ⟨hc, ?_⟩) (Ext.refl _)
    rintro (hw | hw)
    · exact hn hw
    · exact hnw b o hw
  · have hb : Below w.heap.size w w' := by
      have := hd.kept
      exact Kept.to_below (W := fun _ _ => False) ⟨this.os, this.tape, this.output, this.size, fun k hk _ => this.block k hk (hnx k), fun b o u _ hc => this.cell b o u (hnw b o) hc⟩
    have hgs : ∀ id p, gi id = some p → besideG gb n gi (id + n) = some p := fun id p hp => by
      unfold besideG; rw [if_neg (by omega), Nat.add_sub_cancel]; exact hp
    have hgo : Ext gb (besideG gb n gi) := fun id p hp => by unfold besideG; rw [if_pos (hlt id p hp)]; exact hp
    have hwi : ∀ b o, b < w.heap.size → ¬ Wh gi Hi b o := fun b o hlt hw => hnw b o (hd.wr b o hlt hw)
    have hxi : ∀ b, b < w.heap.size → ¬ Xh gi Hi b := fun b hlt hx => hnx b (hd.x b hlt hx)
    have hWr : ∀ b o, Wr F (besideG gb n gi) (besideH H n Hi) b o ↔ Wr (Wr F gb H) gi Hi b o := fun b o => by
      unfold Wr
      rw [beside_wh hlt, or_assoc]
    have hk : ∀ b o u, ¬ Wr F gb H b o → w.cell? ⟨b, o, none⟩ = some u → w'.cell? ⟨b, o, none⟩ = some u ∧ ¬ Wr F (besideG gb n gi) (besideH H n Hi) b o := fun b o u hn hc => by
      refine ⟨(hb.cell (p := ⟨_, _, none⟩) (cell_lt hc)).trans hc, fun hw => ?_⟩
      rcases (hWr b o).1 hw with hw | hw
      · exact hn hw
      · exact hwi b o (cell_lt hc) hw
    have hk2 : ∀ b o u, ¬ Wr (Wr F gb H) gi Hi b o → w'.cell? ⟨b, o, none⟩ = some u → w'.cell? ⟨b, o, none⟩ = some u ∧ ¬ Wr F (besideG gb n gi) (besideH H n Hi) b o := fun b o u hn hc => ⟨hc, fun hw => hn ((hWr b o).1 hw)⟩
    refine ⟨v, r.sh n, besideH H n Hi, n + ni, besideG gb n gi, hd.ret, ⟨r, Hi, ni, hd.post, rfl, rfl, rfl⟩, .of_below hb, hgo, ⟨fun id g s hg => ?_, fun id hid => ?_, fun id o ho => ?_, fun i j g s t hi hj hxi' hxj' => ?_, fun b o hf => Nat.lt_of_lt_of_le (hok.FB b o hf) hb.size, fun b o hf hx => ?_⟩, fun b o hlt' hw => ?_, fun b hlt' hx => ?_, (hd.rep.keep hk2 (Ext.refl _)).sh hgs⟩
    · unfold besideG at hg
      by_cases h : id < n
      · rw [if_pos h] at hg
        have := (hok.lt id g s hg).2
        exact ⟨by omega, Nat.lt_of_lt_of_le this hb.size⟩
      · rw [if_neg h] at hg
        have := hd.ok.lt _ g s hg
        exact ⟨by omega, this.2⟩
    · unfold besideH
      rw [if_neg (by omega), hd.ok.new (id - n) (by omega)]; rfl
    · unfold besideH at ho
      by_cases h : id < n
      · rw [if_pos h] at ho
        rcases hok.live id o ho with ⟨g, size, hg, hrr⟩ | ⟨hg, he⟩
        · exact .inl ⟨g, size, hgo _ _ hg, hrr.keep (hb.block g (hok.lt id g size hg).2) hk hgo⟩
        · exact .inr ⟨by unfold besideG; rw [if_pos h]; exact hg, he⟩
      · rw [if_neg h, Option.map_eq_some_iff] at ho
        obtain ⟨o0, ho0, rfl⟩ := ho
        rcases hd.ok.live _ o0 ho0 with ⟨g, size, hg, hrr⟩ | ⟨hg, m, e, he⟩
        · exact .inl ⟨g, size, by unfold besideG; rw [if_neg h]; exact hg, (hrr.keep rfl hk2 (Ext.refl _)).sh hgs⟩
        · subst he
          exact .inr ⟨by unfold besideG; rw [if_neg h]; exact hg, m, e, rfl⟩
    · unfold besideG at hi hj
      unfold besideH at hxi' hxj'
      by_cases h1 : i < n <;> by_cases h2 : j < n
      · rw [if_pos h1] at hi hxi'; rw [if_pos h2] at hj hxj'; exact hok.one i j g s t hi hj hxi' hxj'
      · rw [if_pos h1] at hi; rw [if_neg h2] at hj hxj'
        exact absurd ⟨j - n, t, hj, (exO_sh _).1 hxj'⟩ (hxi g (hok.lt i g s hi).2)
      · rw [if_neg h1] at hi hxi'; rw [if_pos h2] at hj
        exact absurd ⟨i - n, s, hi, (exO_sh _).1 hxi'⟩ (hxi g (hok.lt j g t hj).2)
      · rw [if_neg h1] at hi hxi'; rw [if_neg h2] at hj hxj'
        have := hd.ok.one _ _ g s t hi hj ((exO_sh _).1 hxi') ((exO_sh _).1 hxj')
        omega
    · rcases beside_xh hx with hx | hx
      · exact hok.FX b o hf hx
      · exact hxi b (hok.FB b o hf) hx
    · rcases (beside_wh hlt).1 hw with hw | hw
      · exact hw
      · exact absurd hw (hwi b o hlt')
    · rcases beside_xh hx with hx | hx
      · exact hx
      · exact absurd hx (hxi b hlt')
theorem sh_noId (n : Nat) {x : AV} (h : NoId x) : x.sh n = x := by
  have key : ∀ cs : List AV, (∀ c ∈ cs, c.sh n = c) → shL n cs = cs := fun cs h => by
    rw [shL_map]
    conv => rhs; rw [← List.map_id cs]
    exact List.map_congr_left fun c hc => h c hc
  induction h with
  | lit v => rfl
  | agg cs _ ih => rw [AV.sh, key cs ih]
  | tup cs _ ih => rw [AV.sh, key cs ih]
  | ref cs _ ih => rw [AV.sh, key cs ih]
  | fn f cs _ ih => rw [AV.sh, key cs ih]
  | sl items _ ih =>
    rw [AV.sh, shLL_map]
    congr 1
    conv => rhs; rw [← List.map_id items]
    refine List.map_congr_left fun it hit => ?_
    rw [← shL_map]
    exact key it (ih it hit)
theorem shLL_noId (n : Nat) {l : List (List AV)} (h : ∀ it ∈ l, ∀ c ∈ it, NoId c) : shLL n l = l := by
  rw [shLL_map]
  conv => rhs; rw [← List.map_id l]
  refine List.map_congr_left fun it hit => ?_
  conv => rhs; rw [id, ← List.map_id it]
  exact List.map_congr_left fun c hc => sh_noId n (h it hit c hc)
theorem beside_at {H Hi : Hp} {n id : Nat} {o : AO} (h : Hi id = some o) : besideH H n Hi (id + n) = some (o.sh n) := by
  unfold besideH; rw [if_neg (by omega), Nat.add_sub_cancel, h]; rfl
theorem beside_lt {H Hi : Hp} {n j : Nat} (h : j < n) : besideH H n Hi j = H j := by
  unfold besideH; rw [if_pos h]
end
end Go.Proofs.Ytheanmfdfoefoaa.Hv
