/- Answers that a call owns are slices to read for ever. The reference's small functions, led over from the walks over worlds. -/
import Derived.Test.YtheanmfdfoefoaaHvRd
import Derived.Test.YtheanmfdfoefoaaRefPut
import Derived.Test.YtheanmfdfoefoaaRefRight
import Derived.Test.YtheanmfdfoefoaaEdRel
set_option linter.unusedVariables false
set_option linter.unusedSimpArgs false
namespace Go.Proofs.Ytheanmfdfoefoaa
open Go Go.RowKit Hv
section
variable {w : World} {gb : Gb}
theorem rep_of_rdM {α : Type} {W : Nat → Nat → Prop} {f : α → List Value} {g : α → List AV} {sz : Nat} {l : List α} {v : Value} (hW : ∀ b off n c, v = .slice (some ⟨b, off, none⟩) n c → ∀ o, ¬ W b o) (hgl : ∀ a, (g a).length = sz) (hf : ∀ a, (f a).length = sz) (h1 : ∀ a ∈ l, ∀ u ∈ f a, u.oneCell' = true)
    (hg : ∀ a ∈ l, ∀ (k : Nat) (x : AV) (u : Value), (g a)[k]? = some x → (f a)[k]? = some u → Rep w W gb x u) (hsz : 0 < sz) (h : RdT w sz f v l) : Rep w W gb (.sl (l.map g)) v := by
  have hi : ∀ it ∈ l.map g, it.length = sz := by
    intro it hit
    obtain ⟨a, _, rfl⟩ := List.mem_map.1 hit
    exact hgl a
  obtain ⟨A, c, rfl, h2, h3, h4, h5⟩ := id h
  have hu := flat_pair (f := f) (g := g) (fun a => (hgl a).trans (hf a).symm) l
  have hgd : ∀ (j : Nat) (u : Value), (l.flatMap f)[j]? = some u → (l.flatMap f).getD j undef = u := fun j u hu => by rw [List.getD_eq_getElem?_getD, hu]; rfl
  have hlen : (l.map g).length = l.length := by simp
  rcases Nat.eq_zero_or_pos l.length with h0 | h0
  · obtain rfl := List.eq_nil_of_length_eq_zero h0
    exact rep_sl_nil rfl h3
  · obtain ⟨b, off, c', hv, hlt, _, _, _⟩ := RdT.at h hf hsz h0
    have hv0 := hv
    injection hv with hA _ _
    subst hA
    obtain ⟨ad, hA, hcell⟩ := h5 h0
    injection hA with hA
    subst hA
    rw [← hlen]
    refine Rep.sl (l.map g) sz _ c b off (fun j => (l.flatMap f).getD j undef) hi (by rw [hlen]; exact h2) h3 (fun _ => rfl) (fun j x hx => ?_) (fun _ _ _ => hW b off _ c' hv0 _) (fun j x hx => ?_) (fun j x hx => ?_)
    · obtain ⟨u, hu, _⟩ := hu j x hx
      have := hcell j u hu
      rw [Addr.add_lit] at this
      rw [hgd j u hu]; exact this
    · obtain ⟨u, hu, a, ha, k, _, hk⟩ := hu j x hx
      rw [hgd j u hu]
      exact h1 a ha u (List.mem_of_getElem? hk)
    · obtain ⟨u, hu, a, ha, k, hx', hk⟩ := hu j x hx
      rw [hgd j u hu]
      exact hg a ha k x u hx' hk
end
theorem rep_of_own {w : World} {W : Nat → Nat → Prop} {gb : Gb} {α : Type} {f : α → List Value} {g : α → List AV} {sz e base : Nat} {l : List α} {v : Value} (hW : ∀ b o, W b o → b < base) (hg : ∀ a, g a = (f a).map AV.lit) (hf : ∀ a, (f a).length = sz) (h1 : ∀ a, ∀ u ∈ f a, u.oneCell' = true) (hsz : 0 < sz)
    (h : w.ownsRow base e sz v l.length (l.flatMap f)) : Rep w W gb (.sl (l.map g)) v := by
  refine rep_of_rdM (fun b off n c hv o hw => ?_) (fun a => by rw [hg, List.length_map, hf]) hf (fun a _ => h1 a) (fun a _ k x u hx hu => by
    rw [hg, List.getElem?_map, hu] at hx
    simp only [Option.map_some, Option.some.injEq] at hx
    subst hx
    exact .lit u) hsz (Rd.of_own h)
  rcases h.2 with ⟨h2, _⟩ | ⟨g2, cap, cur, h2, h3, _⟩
  · rw [hv] at h2; cases h2
  · rw [hv] at h2
    injection h2 with h2 _ _
    injection h2 with h2
    injection h2 with h2 _ _
    have := hW b o hw
    omega
theorem metaH_lit' (m : MetaD) : metaH m = (metaC m).map AV.lit := rfl
theorem rep_tup2 {w : World} {W : Nat → Nat → Prop} {gb : Gb} {x y : AV} {a b : Value} (h : Rep w W gb x a) (h' : Rep w W gb y b) : Rep w W gb (.tup [x, y]) (.tuple #[a, b]) :=
  Rep.tup [x, y] [a, b] rfl fun j c u hc hu => by
    match j with
    | 0 => simp at hc hu; subst hc hu; exact h
    | 1 => simp at hc hu; subst hc hu; exact h'
    | j + 2 => simp at hc
theorem vals7 {vs : List Value} (h : vs.length = 7) : ∃ a b c d e f g, vs = [a, b, c, d, e, f, g] := by
  match vs, h with
  | [a, b, c, d, e, f, g], _ => exact ⟨a, b, c, d, e, f, g, rfl⟩
/-- A state's value, by its levels' values. -/
theorem rd_st {w : World} {W : Nat → Nat → Prop} {gb : Gb} {s : StD} {v : Value} (h : Rep w W gb (stH s) v) : ∃ f : Nat → Value, v = .agg #[.int .i64 s.log, .int .i64 s.next, .int .i64 s.seq, f 0, f 1, f 2, f 3] ∧ RdLv w f s := by
  unfold stH at h
  cases h with
  | agg cs vs hl h1 hj =>
    obtain ⟨a, b, c, d, f, g, k, rfl⟩ := vals7 (by rw [← hl]; rfl)
    have e0 := rep_lit (hj 0 _ _ rfl rfl)
    have e1 := rep_lit (hj 1 _ _ rfl rfl)
    have e2 := rep_lit (hj 2 _ _ rfl rfl)
    subst e0 e1 e2
    refine ⟨fun n => match n with | 0 => d | 1 => f | 2 => g | _ => k, rfl, fun n hn => ?_⟩
    match n, hn with
    | 0, _ => exact rd_of_rep metaH_lit' metaC_len (hj 3 _ _ rfl rfl)
    | 1, _ => exact rd_of_rep metaH_lit' metaC_len (hj 4 _ _ rfl rfl)
    | 2, _ => exact rd_of_rep metaH_lit' metaC_len (hj 5 _ _ rfl rfl)
    | 3, _ => exact rd_of_rep metaH_lit' metaC_len (hj 6 _ _ rfl rfl)
theorem without_h (l : List MetaD) (f : Int) (hl : l.length ≤ 1000000) : Hv.ACalls Try.prog 66 [.sl (l.map metaH), .lit (.int .i64 f)] (.tup [.sl ((withoutL l f).map metaH), .lit (.bool (decide ((withoutL l f).length < l.length)))]) := by
  refine ⟨by kernel_rfl, fun w W gb vs hW hl' hr => ?_⟩
  match vs, hl', hr with
  | [v, u], _, hr =>
    obtain rfl := rep_lit (hr 1 _ _ rfl rfl)
    exact (without_calls l f v w (rd_of_rep metaH_lit' metaC_len (hr 0 _ _ rfl rfl)) hl).mono fun e w' ⟨v', h1, h2, h3⟩ => ⟨_, h1, rep_tup2 (rep_of_own hW metaH_lit' metaC_len metaC_one (by decide) h2) (.lit _), h3⟩
theorem rep_metaV {w : World} {W : Nat → Nat → Prop} {gb : Gb} {m : MetaD} {v : Value} (h : Rep w W gb (.agg (metaH m)) v) : v = .agg #[.int .i64 m.file, .int .i64 m.size, .string m.first, .string m.last] :=
  rep_val h rfl
theorem put_h' (l : List MetaD) (m : MetaD) (n : Nat) (hl : l.length ≤ 1000000) : Hv.ACalls Try.prog 68 [.sl (l.map metaH), .agg (metaH m), .lit (.int .i64 (n : Int))] (.sl ((putL l m n).map metaH)) := by
  refine ⟨by kernel_rfl, fun w W gb vs hW hl' hr => ?_⟩
  match vs, hl', hr with
  | [v, u, x], _, hr =>
    obtain rfl := rep_lit (hr 2 _ _ rfl rfl)
    obtain rfl := rep_metaV (hr 1 _ _ rfl rfl)
    exact (put_calls l m n v w (rd_of_rep metaH_lit' metaC_len (hr 0 _ _ rfl rfl)) hl).mono fun e w' ⟨v', h1, h2, h3⟩ => ⟨_, h1, rep_of_own hW metaH_lit' metaC_len metaC_one (by decide) h2, h3⟩
theorem count_h (s : StD) (hl : ∀ n, n < 4 → (s.lv n).length ≤ 1000000) : Hv.ACalls Try.prog 69 [stH s] (.lit (.int .i64 ((countS s : Nat) : Int))) := by
  refine ⟨by kernel_rfl, fun w W gb vs hW hl' hr => ?_⟩
  match vs, hl', hr with
  | [v], _, hr =>
    obtain ⟨f, rfl, hf⟩ := rd_st (hr 0 _ _ rfl rfl)
    exact (count_calls s f w hf hl).mono fun e w' h => ⟨_, h.1, .lit _, h.2⟩
theorem has_h (s : StD) (fl : Int) : Hv.ACalls Try.prog 67 [stH s, .lit (.int .i64 fl)] (.lit (.bool (hasB s fl))) := by
  refine ⟨by kernel_rfl, fun w W gb vs hW hl' hr => ?_⟩
  match vs, hl', hr with
  | [v, u], _, hr =>
    obtain rfl := rep_lit (hr 1 _ _ rfl rfl)
    obtain ⟨f, rfl, hf⟩ := rd_st (hr 0 _ _ rfl rfl)
    exact (has_calls s fl f w hf).mono fun e w' h => ⟨_, h.1, .lit _, h.2⟩
theorem rd_edv {w : World} {W : Nat → Nat → Prop} {gb : Gb} {e : EdD} {v : Value} (h : Rep w W gb (edH e) v) : ∃ gv nv, v = .agg #[.int .i64 e.log, .int .i64 e.next, .int .i64 e.seq, gv, nv] ∧ RdT w 2 plC gv e.gone ∧ RdT w 5 addC nv e.new := by
  unfold edH at h
  cases h with
  | agg cs vs hl h1 hj =>
    obtain ⟨a, b, c, d, f, rfl⟩ : ∃ a b c d e, vs = [a, b, c, d, e] := by
      have hl : vs.length = 5 := by rw [← hl]; rfl
      match vs, hl with
      | [a, b, c, d, e], _ => exact ⟨a, b, c, d, e, rfl⟩
    have e0 := rep_lit (hj 0 _ _ rfl rfl)
    have e1 := rep_lit (hj 1 _ _ rfl rfl)
    have e2 := rep_lit (hj 2 _ _ rfl rfl)
    subst e0 e1 e2
    exact ⟨d, f, rfl, rd_of_rep (fun _ => rfl) plC_len (hj 3 _ _ rfl rfl), rd_of_rep (fun _ => rfl) addC_len (hj 4 _ _ rfl rfl)⟩
theorem docRight_h (e : EdD) : Hv.ACalls Try.prog 38 [edH e] (.lit (.bool (rightB e))) := by
  refine ⟨by kernel_rfl, fun w W gb vs hW hl hr => ?_⟩
  match vs, hl, hr with
  | [v], _, hr =>
    obtain ⟨gv, nv, rfl, h1, h2⟩ := rd_edv (hr 0 _ _ rfl rfl)
    exact (Right_calls e gv nv w h1 h2).mono fun x w' h => ⟨_, h.1, .lit _, h.2⟩
end Go.Proofs.Ytheanmfdfoefoaa
