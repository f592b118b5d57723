/- Abstract values over an abstract heap: a function's answer from its body. Plain: over any program. -/
import Derived.Test.YtheanmfdfoefoaaHvWp
import Derived.OwnWalk
set_option linter.unusedVariables false
set_option linter.unusedSimpArgs false
namespace Go.Proofs.Ytheanmfdfoefoaa.Hv
open Go Go.RowKit

theorem beqE (a b : Nat) : Nat.beq a b = (a == b) := by rw [Bool.eq_iff_iff]; simp
theorem range0 : List.range 0 = [] := rfl
theorem range1 : List.range 1 = [0] := rfl
theorem range2 : List.range 2 = [0, 1] := rfl
theorem range3 : List.range 3 = [0, 1, 2] := rfl
theorem beq_tf : (true == false) = false := rfl
theorem beq_ft : (false == true) = false := rfl
theorem elem_cons (a b : Nat) (l : List Nat) : (b :: l).elem a = bif Nat.beq a b then true else l.elem a := by
  rw [List.elem_cons, beqE]
  cases a == b <;> rfl
theorem lk_nil {α : Type} (n : Nat) : lk? ([] : List (Nat × α)) n = none := rfl
theorem lk_cons {α : Type} (k n : Nat) (v : α) (l : List (Nat × α)) : lk? ((k, v) :: l) n = bif Nat.beq k n then some v else lk? l n := rfl
theorem ble_self (n : Nat) : Nat.ble n n = true := Nat.ble_self_eq_true n
theorem take_map_all {α β : Type} (l : List α) (f : α → β) : (l.map f).take l.length = l.map f := List.take_of_length_le (by simp)
theorem elem_nil (a : Nat) : ([] : List Nat).elem a = false := rfl
/-- It names no object. -/
inductive NoId : AV → Prop
  | lit (v : Value) : NoId (.lit v)
  | agg (cs : List AV) (h : ∀ c ∈ cs, NoId c) : NoId (.agg cs)
  | tup (cs : List AV) (h : ∀ c ∈ cs, NoId c) : NoId (.tup cs)
  | sl (items : List (List AV)) (h : ∀ it ∈ items, ∀ c ∈ it, NoId c) : NoId (.sl items)
  | ref (cs : List AV) (h : ∀ c ∈ cs, NoId c) : NoId (.ref cs)
  | fn (f : FuncId) (cs : List AV) (h : ∀ c ∈ cs, NoId c) : NoId (.fn f cs)
theorem noId_lit {v : Value} : NoId (.lit v) = True := eq_true (.lit v)
theorem noId_agg {cs : List AV} : NoId (.agg cs) = ∀ c ∈ cs, NoId c := propext ⟨fun h => by cases h; assumption, .agg cs⟩
theorem noId_tup {cs : List AV} : NoId (.tup cs) = ∀ c ∈ cs, NoId c := propext ⟨fun h => by cases h; assumption, .tup cs⟩
theorem noId_sl {items : List (List AV)} : NoId (.sl items) = ∀ it ∈ items, ∀ c ∈ it, NoId c := propext ⟨fun h => by cases h; assumption, .sl items⟩
theorem noId_ref {cs : List AV} : NoId (.ref cs) = ∀ c ∈ cs, NoId c := propext ⟨fun h => by cases h; assumption, .ref cs⟩
theorem Rep.noId {w : World} {W : Nat → Nat → Prop} {gb gb' : Gb} {x : AV} {v : Value} (h : Rep w W gb x v) (hn : NoId x) : Rep w W gb' x v := by
  induction h with
  | lit v => exact .lit v
  | agg cs vs hl h1 _ ih =>
    cases hn with
    | agg _ hc => exact .agg cs vs hl h1 fun j c u hj hu => ih j c u hj hu (hc c (List.mem_of_getElem? hj))
  | tup cs vs hl _ ih =>
    cases hn with
    | tup _ hc => exact .tup cs vs hl fun j c u hj hu => ih j c u hj hu (hc c (List.mem_of_getElem? hj))
  | sl items sz A c b off val hi hc hm ha hcell hF h1 _ ih =>
    cases hn with
    | sl _ hn =>
      refine .sl items sz A c b off val hi hc hm ha hcell hF h1 fun j x hx => ih j x hx ?_
      obtain ⟨it, hit, hxi⟩ := List.mem_flatten.1 (List.mem_of_getElem? hx)
      exact hn it hit x hxi
  | ref cs b off val hcell hF h1 _ ih =>
    cases hn with
    | ref _ hc => exact .ref cs b off val hcell hF h1 fun j c hj => ih j c hj (hc c (List.mem_of_getElem? hj))
  | fn f cs vs hl _ ih =>
    cases hn with
    | fn _ _ hc => exact .fn f cs vs hl fun j c u hj hu => ih j c u hj hu (hc c (List.mem_of_getElem? hj))
  | _ => cases hn
def retA (ts : List Nat) (f : Nat → AV) : AV := match ts with | [t] => f t | ts => .tup (ts.map f)
def rets (s : AS) (ts : List Nat) : AV := retA ts s.get
/-- All rows are from here on for reading and appending only. -/
def sealO : Option AO → Option AO
  | some (.row _ e items) => some (.row false e items)
  | o => o
def sealH (H : Hp) : Hp := fun id => sealO (H id)
theorem exO_seal (o : Option AO) : exO (sealO o) = exO o := by
  match o with
  | none => rfl
  | some (.cells _) => rfl
  | some (.row _ _ _) => rfl
  | some (.frz _ _) => rfl
  | some (.map _ _) => rfl
  | some (.iter _ _ _ _) => rfl
theorem wrO_seal {o : Option AO} {k : Nat} (h : wrO (sealO o) k) : wrO o k := by
  match o with
  | none => exact h
  | some (.cells _) => exact h
  | some (.row true _ _) => exact trivial
  | some (.row false _ _) => exact h
  | some (.frz _ _) => exact h
  | some (.map _ _) => exact h
  | some (.iter _ _ _ _) => exact h
theorem Xh_seal {gb : Gb} {H : Hp} {b : Nat} (h : Xh gb (sealH H) b) : Xh gb H b := by
  obtain ⟨id, s, h1, h2⟩ := h
  exact ⟨id, s, h1, by rw [← exO_seal]; exact h2⟩
theorem Wr_seal {F : Nat → Nat → Prop} {gb : Gb} {H : Hp} {b o : Nat} (h : Wr F gb (sealH H) b o) : Wr F gb H b o := by
  rcases h with h | ⟨id, s, h1, h2⟩
  · exact .inl h
  · exact .inr ⟨id, s, h1, wrO_seal h2⟩
theorem Rep.less {w : World} {W W' : Nat → Nat → Prop} {gb : Gb} {x : AV} {v : Value} (h : Rep w W gb x v) (hw : ∀ b o, W' b o → W b o) : Rep w W' gb x v :=
  h.keep (fun b o u hn hc => ⟨hc, fun h' => hn (hw b o h')⟩) (Ext.refl _)
theorem RepL.less {w : World} {W W' : Nat → Nat → Prop} {gb : Gb} {cs : List AV} {us : List Value} (h : RepL w W gb cs us) (hw : ∀ b o, W' b o → W b o) : RepL w W' gb cs us :=
  h.keep (fun b o u hn hc => ⟨hc, fun h' => hn (hw b o h')⟩) (Ext.refl _)
theorem HeapOk.seal {P : Program} {w : World} {F : Nat → Nat → Prop} {gb : Gb} {H : Hp} {n : Nat} (h : HeapOk P w F gb H n) : HeapOk P w F gb (sealH H) n := by
  refine ⟨h.lt, fun id hn => by unfold sealH; rw [h.new id hn]; rfl, fun id o ho => ?_, fun i j g s t hi hj hx hy => h.one i j g s t hi hj (by rw [← exO_seal]; exact hx) (by rw [← exO_seal]; exact hy), h.FB, fun b o hf hx => h.FX b o hf (Xh_seal hx)⟩
  have hW : ∀ b o, Wr F gb (sealH H) b o → Wr F gb H b o := fun b o => Wr_seal
  unfold sealH at ho
  cases hH : H id with
  | none => rw [hH] at ho; cases ho
  | some x =>
    rw [hH] at ho
    have hl := h.live id x hH
    rcases hl with ⟨g, size, hg, hl⟩ | ⟨hg, m, e, rfl⟩
    · refine .inl ⟨g, size, hg, ?_⟩
      cases x with
      | cells cs =>
        injection ho with ho; subst ho
        obtain ⟨cur, e, fr, h1, h2, h3, h4⟩ := hl
        exact ⟨cur, e, fr, h1, h2, h3, h4.less hW⟩
      | row m e items =>
        injection ho with ho; subst ho
        obtain ⟨h0, cur, fr, h1, h2, h3, h4, h5⟩ := hl
        exact ⟨h0, cur, fr, h1, h2, h3, h4, h5.less hW⟩
      | frz e items =>
        injection ho with ho; subst ho
        obtain ⟨h0, cur, fr, h1, h2, h3, h4, h5, h6⟩ := hl
        exact ⟨h0, cur, fr, h1, h2, h3, h4, h5.less hW, fun o ho hw => h6 o ho (hW _ _ hw)⟩
      | map es clock =>
        injection ho with ho; subst ho
        obtain ⟨ents, h1, h2, h3⟩ := hl
        exact ⟨ents, h1, h2, fun j e x he hx => ⟨(h3 j e x he hx).born, (h3 j e x he hx).key.less hW, (h3 j e x he hx).val.less hW⟩⟩
      | iter m since seen last =>
        injection ho with ho; subst ho
        exact hl
    · injection ho with ho; subst ho
      exact .inr ⟨hg, false, e, rfl⟩
def retv (s : AS) (ts : List Nat) : AV := retA ts fun t => (s.get t).view (sealH s.heap)
def HPost (ts : List Nat) (Post : AV → Hp → Nat → Prop) : AEx → AS → Prop
  | .ext _, _ => False
  | _, s => Post (rets s ts) s.heap s.next
def APost (ts : List Nat) (res : AV) : AEx → AS → Prop
  | .ext _, _ => False
  | _, s => retv s ts = res
def beginF : Nat → List AV → List (Nat × AV)
  | _, [] => []
  | k, a :: as => (k, a) :: beginF (k + 1) as
theorem lkp_zip (as : List AV) : ∀ (k t : Nat), lkp AV.dead (beginF k as) t = if k ≤ t then (as[t - k]?).getD .dead else .dead := by
  induction as with
  | nil => intro k t; simp [lkp, beginF]
  | cons a as ih =>
    intro k t
    show (bif Nat.beq k t then a else lkp .dead (beginF (k + 1) as) t) = _
    rw [ih]
    cases hb : Nat.beq k t with
    | true =>
      have := Nat.eq_of_beq_eq_true hb
      subst this
      simp
    | false =>
      have hne : k ≠ t := fun e => by subst e; simp at hb
      by_cases h : k ≤ t
      · obtain ⟨j, hj⟩ : ∃ j, t - k = j + 1 := ⟨t - k - 1, by omega⟩
        rw [cond_false, if_pos (by omega), if_pos h, hj, show t - (k + 1) = j from by omega]
        rfl
      · rw [cond_false, if_neg (by omega), if_neg h]
theorem get_begin (as : List AV) (H : Hp) (n t : Nat) : (⟨beginF 0 as, H, n⟩ : AS).get t = (as[t]?).getD .dead := by
  have := lkp_zip as 0 t
  unfold AS.get
  rw [this]
  simp
section
variable {P : Program} {T : Tbl} {N : Nat} {F W : Nat → Nat → Prop} {w w' : World} {gb gb' : Gb} {H H' : Hp} {n n' : Nat} {s : AS} {a : Act}
theorem begin_good {as : List AV} {vs : List Value} {N : Nat} (hok : HeapOk P w F gb H n) (hl : as.length = vs.length) (hn : as.length ≤ N) (hr : ∀ (j : Nat) (x : AV) (v : Value), as[j]? = some x → vs[j]? = some v → Rep w (Wr F gb H) gb x v) :
    Good P N F w gb H ⟨beginF 0 as, H, n⟩ { tmps := vs.toArray ++ Array.replicate (N - vs.toArray.size) undef, defers := [] } w gb := by
  have hsz : vs.toArray.size = vs.length := by simp
  refine ⟨Kept.refl _ _ _, Ext.refl _, hok, fun _ _ _ h => h, fun _ _ h => h, by simp; omega, rfl, fun t => ?_⟩
  rw [get_begin]
  by_cases ht : t < as.length
  · rw [List.getElem?_eq_getElem ht]
    have hv : (vs.toArray ++ Array.replicate (N - vs.toArray.size) undef).getD t undef = vs[t]'(by omega) := by
      rw [Array.getD_eq_getD_getElem?, Array.getElem?_append_left (by simp; omega)]
      simp [show t < vs.length by omega]
    rw [hv]
    exact hr t _ _ (List.getElem?_eq_getElem ht) (List.getElem?_eq_getElem (by omega))
  · rw [List.getElem?_eq_none (by omega)]
    exact .dead _
theorem results_nil {fn : Func} (hr : fn.results = #[]) (tmps : Array Value) (w : World) : (results fn tmps).run P w = .ok (.tuple #[]) w := by
  unfold results
  simp [hr]
theorem tup_of {ts : List Nat} {f : Nat → AV} {g : Nat → Value} (h : ∀ t, Rep w W gb (f t) (g t)) : Rep w W gb (.tup (ts.map f)) (.tuple (ts.map g).toArray) := by
  refine Rep.tup _ _ (by simp) fun j c u hc hu => ?_
  rw [List.getElem?_map, Option.map_eq_some_iff] at hc hu
  obtain ⟨t, ht, rfl⟩ := hc
  obtain ⟨t', ht', rfl⟩ := hu
  rw [ht] at ht'
  injection ht' with ht'
  subst ht'
  exact h t
def retOf (ts : List Nat) (tmps : Array Value) : Value := match ts with | [t] => tmps.getD t undef | ts => .tuple (ts.map fun t => tmps.getD t undef).toArray
theorem results_of {fn : Func} {ts : List Nat} (hr : fn.results = (ts.map ResultVar.tmp).toArray) (hl : ts.length ≤ 3) (tmps : Array Value) (w : World) : (results fn tmps).run P w = .ok (retOf ts tmps) w := by
  match ts, hl, hr with
  | [], _, hr => exact results_nil hr tmps w
  | [t], _, hr => exact results_tmp hr _ _ _
  | [t, u], _, hr => exact results_tmp2 hr _ _ _
  | [t, u, x], _, hr => exact results_tmp3 hr _ _ _
  | _ :: _ :: _ :: _ :: _, hl, _ => simp at hl
/-- A result: a slot's value, or what its variable holds. -/
def fetch (T : Tbl) (H : Hp) (f : Nat → AV) : ResultVar → Option AV
  | .tmp t => some (f t)
  | .cell t ty => rdAt T H ty (f t)
def fetchs (T : Tbl) (H : Hp) (f : Nat → AV) : List ResultVar → Option (List AV)
  | [] => some []
  | r :: rs => match fetch T H f r, fetchs T H f rs with
    | some v, some vs => some (v :: vs)
    | _, _ => none
def retC (T : Tbl) (H : Hp) (f : Nat → AV) (rs : List ResultVar) : Option AV := match rs with
  | [r] => fetch T H f r
  | rs => match fetchs T H f rs with
    | some vs => some (.tup vs)
    | none => none
def HPostC (T : Tbl) (rs : List ResultVar) (Post : AV → Hp → Nat → Prop) : AEx → AS → Prop
  | .ext _, _ => False
  | _, s => match retC T s.heap s.get rs with
    | some v => Post v s.heap s.next
    | none => False
def APostC (T : Tbl) (rs : List ResultVar) (res : AV) : AEx → AS → Prop
  | .ext _, _ => False
  | _, s => match retC T s.heap s.get rs with
    | some v => v.viewR (sealH s.heap) = res
    | none => False
def oneRes (rv : ResultVar) (tmps : Array Value) : Sem Value := match rv with
  | .tmp t => pure (tmps.getD t undef)
  | .cell a t => do loadVar t (← asAddr (tmps.getD a undef))
theorem results_is (fn : Func) (tmps : Array Value) : results fn tmps = (do
    let vs ← fn.results.mapM fun r => oneRes r tmps
    pure (if h : vs.size = 1 then vs[0] else .tuple vs)) := by
  unfold results oneRes
  congr 1
theorem run_fetch {T : Tbl} {rv : ResultVar} {f : Nat → AV} {tmps : Array Value} {v : AV} (hT : T.Ok P) (hok : HeapOk P w F gb H n) (hs : ∀ t, Rep w (Wr F gb H) gb (f t) (tmps.getD t undef)) (h : fetch T H f rv = some v) : ∃ u, (oneRes rv tmps).run P w = .ok u w ∧ Rep w (Wr F gb H) gb v u := by
  cases rv with
  | tmp t =>
    simp only [fetch, Option.some.injEq] at h
    subst h
    exact ⟨_, rfl, hs t⟩
  | cell t ty =>
    obtain ⟨A, u, hv, hrun, hrep⟩ := run_rdAt hT h hok (hs t)
    refine ⟨u, ?_, hrep⟩
    simp only [oneRes, Sem.run_bind, hv]
    exact hrun
theorem run_fetchs {T : Tbl} {f : Nat → AV} {tmps : Array Value} (hT : T.Ok P) (hok : HeapOk P w F gb H n) (hs : ∀ t, Rep w (Wr F gb H) gb (f t) (tmps.getD t undef)) : ∀ {rs : List ResultVar} {vs : List AV}, fetchs T H f rs = some vs →
    ∃ us : List Value, ((rs.mapM fun r => oneRes r tmps) : Sem (List Value)).run P w = .ok us w ∧ vs.length = us.length ∧ ∀ (j : Nat) (c : AV) (u : Value), vs[j]? = some c → us[j]? = some u → Rep w (Wr F gb H) gb c u := by
  intro rs
  induction rs with
  | nil =>
    intro vs h
    simp only [fetchs, Option.some.injEq] at h
    subst h
    exact ⟨[], by simp, rfl, fun j c u h => by simp at h⟩
  | cons r rs ih =>
    intro vs h
    simp only [fetchs] at h
    split at h
    · rename_i v vs' h1 h2
      simp only [Option.some.injEq] at h
      subst h
      obtain ⟨u, e1, r1⟩ := run_fetch hT hok hs h1
      obtain ⟨us, e2, hl, r2⟩ := ih h2
      refine ⟨u :: us, ?_, by simp [hl], fun j c y hc hy => ?_⟩
      · rw [List.mapM_cons]
        simp only [Sem.run_bind, e1, Result.andThen_ok, e2, Sem.run_pure]
      · cases j with
        | zero => simp only [List.getElem?_cons_zero, Option.some.injEq] at hc hy; subst hc hy; exact r1
        | succ j => exact r2 j c y (by simpa using hc) (by simpa using hy)
    · cases h
theorem run_retC {T : Tbl} {fn : Func} {rs : List ResultVar} {f : Nat → AV} {tmps : Array Value} {v : AV} (hT : T.Ok P) (hr : fn.results = rs.toArray) (hok : HeapOk P w F gb H n) (hs : ∀ t, Rep w (Wr F gb H) gb (f t) (tmps.getD t undef)) (h : retC T H f rs = some v) : ∃ u, (results fn tmps).run P w = .ok u w ∧ Rep w (Wr F gb H) gb v u := by
  have all : ∀ vs, fetchs T H f rs = some vs → ∃ us : List Value, ((fn.results.mapM fun r => oneRes r tmps) : Sem (Array Value)).run P w = .ok us.toArray w ∧ vs.length = us.length ∧ ∀ (j : Nat) (c : AV) (u : Value), vs[j]? = some c → us[j]? = some u → Rep w (Wr F gb H) gb c u := fun vs hv => by
    obtain ⟨us, e, hl, hrep⟩ := run_fetchs hT hok hs hv
    refine ⟨us, ?_, hl, hrep⟩
    rw [hr, List.mapM_toArray]
    rw [Sem.run_map]
    rw [e]; rfl
  unfold retC at h
  rw [results_is]
  split at h
  · rename_i r
    obtain ⟨us, e, hl, hrep⟩ := all [v] (by simp only [fetchs, h])
    match us, hl with
    | [u], _ =>
      refine ⟨u, ?_, hrep 0 v u rfl rfl⟩
      simp only [Sem.run_bind, e, Result.andThen_ok]
      simp
  · rename_i hne
    split at h
    · rename_i vs hv
      simp only [Option.some.injEq] at h
      subst h
      obtain ⟨us, e, hl, hrep⟩ := all vs hv
      refine ⟨.tuple us.toArray, ?_, Rep.tup vs us hl hrep⟩
      have hfl : ∀ {rs : List ResultVar} {vs : List AV}, fetchs T H f rs = some vs → vs.length = rs.length := by
        intro rs
        induction rs with
        | nil => intro vs h; simp only [fetchs, Option.some.injEq] at h; subst h; rfl
        | cons r rs ih =>
          intro vs h
          simp only [fetchs] at h
          split at h
          · rename_i h1 h2
            simp only [Option.some.injEq] at h
            subst h
            simp [ih h2]
          · cases h
      have h1 : us.length ≠ 1 := fun h1 => by
        have := hfl hv
        have hl1 : rs.length = 1 := by omega
        match rs, hl1 with
        | [r], _ => exact hne r rfl
      simp only [Sem.run_bind, e, Result.andThen_ok]
      have : ¬ us.toArray.size = 1 := by simpa using h1
      rw [dif_neg this]; rfl
    · cases h
theorem rets_rep {ts : List Nat} {tmps : Array Value} {f : Nat → AV} (h : ∀ t, Rep w W gb (f t) (tmps.getD t undef)) : Rep w W gb (retA ts f) (retOf ts tmps) := by
  match ts with
  | [] => exact tup_of h
  | [t] => exact h t
  | t :: u :: l => exact tup_of h
/-- A function over a heap. -/
theorem hcalls_of {f : FuncId} {fn : Func} {c : Code} {ts : List Nat} {as : List AV} {Post : AV → Hp → Nat → Prop} (A : Vis) (hT : T.Ok P) (hm : P.follows .mixedOrders = true) (hf : P.funcs[f]? = some fn) (hb : fn.body = some c) (hr : fn.results = (ts.map ResultVar.tmp).toArray) (hl : ts.length ≤ 3)
    (hok : okC T A fn.ntmps c = true) (hF : okF P f = true) (hn : Nat.ble as.length fn.ntmps = true) (h : cwp P T A c ⟨beginF 0 as, H, n⟩ (den P T A (HPost ts Post) [])) : HCalls P f as H n Post := by
  replace hn := Nat.le_of_ble_eq_true hn
  refine ⟨hF, fun w F gb vs hheap hlen hrep => ?_⟩
  refine calls_of_wp hf hb ?_
  refine cwp_sound hT hm c hok ⟨_, begin_good hheap hlen hn hrep⟩ h fun e s' a' w' hs hr' => ?_
  obtain ⟨gb', g'⟩ := hr'
  have key : Post (rets s' ts) s'.heap s'.next → a'.defers = [] ∧ ∃ v, (results fn a'.tmps).run P w' = .ok v w' ∧ ∃ v' r H' n' gb', Done P F gb H w Post (.returned v) w' v' r H' n' gb' := by
    intro hp
    refine ⟨g'.defers, ?_⟩
    have hrun := results_of (P := P) hr hl a'.tmps w'
    refine ⟨_, hrun, _, rets s' ts, s'.heap, s'.next, gb', rfl, hp, g'.kept, g'.ext, g'.ok, g'.wr0, g'.x0, ?_⟩
    exact rets_rep (f := s'.get) g'.slots
  cases e with
  | nrm => exact key hs
  | ret => exact key hs
  | ext i => exact hs.elim
/-- A function over a heap, with results that are variables. -/
theorem hcallsC_of {f : FuncId} {fn : Func} {c : Code} {rs : List ResultVar} {as : List AV} {Post : AV → Hp → Nat → Prop} (A : Vis) (hT : T.Ok P) (hm : P.follows .mixedOrders = true) (hf : P.funcs[f]? = some fn) (hb : fn.body = some c) (hr : fn.results = rs.toArray)
    (hok : okC T A fn.ntmps c = true) (hF : okF P f = true) (hn : Nat.ble as.length fn.ntmps = true) (h : cwp P T A c ⟨beginF 0 as, H, n⟩ (den P T A (HPostC T rs Post) [])) : HCalls P f as H n Post := by
  replace hn := Nat.le_of_ble_eq_true hn
  refine ⟨hF, fun w F gb vs hheap hlen hrep => ?_⟩
  refine calls_of_wp hf hb ?_
  refine cwp_sound hT hm c hok ⟨_, begin_good hheap hlen hn hrep⟩ h fun e s' a' w' hs hr' => ?_
  obtain ⟨gb', g'⟩ := hr'
  have key : (match retC T s'.heap s'.get rs with | some v => Post v s'.heap s'.next | none => False) → a'.defers = [] ∧ ∃ v, (results fn a'.tmps).run P w' = .ok v w' ∧ ∃ v' r H' n' gb', Done P F gb H w Post (.returned v) w' v' r H' n' gb' := by
    intro hp
    refine ⟨g'.defers, ?_⟩
    split at hp
    · rename_i v hv
      obtain ⟨u, hrun, hrep⟩ := run_retC hT hr g'.ok g'.slots hv
      exact ⟨u, hrun, _, v, s'.heap, s'.next, gb', rfl, hp, g'.kept, g'.ext, g'.ok, g'.wr0, g'.x0, hrep⟩
    · exact hp.elim
  cases e with
  | nrm => exact key hs
  | ret => exact key hs
  | ext i => exact hs.elim
/-- A function that leaves all that was there as it was, whatever the heap. -/
theorem acalls_of {f : FuncId} {fn : Func} {c : Code} {ts : List Nat} {as : List AV} {res : AV} (A : Vis) (hT : T.Ok P) (hm : P.follows .mixedOrders = true) (hf : P.funcs[f]? = some fn) (hb : fn.body = some c) (hr : fn.results = (ts.map ResultVar.tmp).toArray) (hl : ts.length ≤ 3)
    (hok : okC T A fn.ntmps c = true) (hF : okF P f = true) (hn : Nat.ble as.length fn.ntmps = true) (hna : ∀ x ∈ as, NoId x) (hnr : NoId res) (h : cwp P T A c ⟨beginF 0 as, fun _ => none, 0⟩ (den P T A (APost ts res) [])) : ACalls P f as res := by
  replace hn := Nat.le_of_ble_eq_true hn
  refine ⟨hF, fun w W gb vs hW hlen hrep => ?_⟩
  refine calls_of_wp hf hb ?_
  have hheap : HeapOk P w W (fun _ => none) (fun _ => none) 0 := ⟨fun _ _ _ h => (by cases h), fun _ _ => rfl, fun _ _ h => (by cases h), fun _ _ _ _ _ h => (by cases h), hW, fun _ _ _ ⟨_, _, h, _⟩ => (by cases h)⟩
  have hnw : ∀ b o, ¬ Wh (fun _ => none) (fun _ => none) b o := fun b o ⟨_, _, h, _⟩ => by cases h
  refine cwp_sound hT hm c hok ⟨_, begin_good hheap hlen hn fun j x v hx hv => ((hrep j x v hx hv).noId (hna x (List.mem_of_getElem? hx))).keep (fun b o u hn hc => ⟨hc, fun hw => hw.elim hn (hnw b o)⟩) (Ext.refl _)⟩ h fun e s' a' w' hs hr' => ?_
  obtain ⟨gb', g'⟩ := hr'
  have key : retv s' ts = res → a'.defers = [] ∧ ∃ v, (results fn a'.tmps).run P w' = .ok v w' ∧ ∃ v', Ending.returned v = .returned v' ∧ Rep w' W gb res v' ∧ Below w.heap.size w w' := by
    intro hp
    refine ⟨g'.defers, ?_⟩
    have hrun := results_of (P := P) hr hl a'.tmps w'
    refine ⟨_, hrun, _, rfl, ?_, ?_⟩
    · have := rets_rep (ts := ts) (f := fun t => (s'.get t).view (sealH s'.heap)) (fun t => view_rep g'.ok.seal ((g'.slots t).less fun b o => Wr_seal))
      have e : retA ts (fun t => (s'.get t).view (sealH s'.heap)) = res := hp
      rw [e] at this
      exact (this.keep (W' := W) (gb' := gb') (fun b o u hn hc => ⟨hc, fun hw => hn (.inl hw)⟩) (Ext.refl _)).noId hnr
    · have hk := g'.kept
      exact ⟨hk.os, hk.tape, hk.output, hk.size, fun k hlt => hk.block k hlt fun ⟨_, _, h, _⟩ => by cases h⟩
  cases e with
  | nrm => exact key hs
  | ret => exact key hs
  | ext i => exact hs.elim
/-- A function that leaves all that was there as it was, whatever the heap, with results that are variables. -/
theorem acallsC_of {f : FuncId} {fn : Func} {c : Code} {rs : List ResultVar} {as : List AV} {res : AV} (A : Vis) (hT : T.Ok P) (hm : P.follows .mixedOrders = true) (hf : P.funcs[f]? = some fn) (hb : fn.body = some c) (hr : fn.results = rs.toArray)
    (hok : okC T A fn.ntmps c = true) (hF : okF P f = true) (hn : Nat.ble as.length fn.ntmps = true) (hna : ∀ x ∈ as, NoId x) (hnr : NoId res) (h : cwp P T A c ⟨beginF 0 as, fun _ => none, 0⟩ (den P T A (APostC T rs res) [])) : ACalls P f as res := by
  replace hn := Nat.le_of_ble_eq_true hn
  refine ⟨hF, fun w W gb vs hW hlen hrep => ?_⟩
  refine calls_of_wp hf hb ?_
  have hheap : HeapOk P w W (fun _ => none) (fun _ => none) 0 := ⟨fun _ _ _ h => (by cases h), fun _ _ => rfl, fun _ _ h => (by cases h), fun _ _ _ _ _ h => (by cases h), hW, fun _ _ _ ⟨_, _, h, _⟩ => (by cases h)⟩
  have hnw : ∀ b o, ¬ Wh (fun _ => none) (fun _ => none) b o := fun b o ⟨_, _, h, _⟩ => by cases h
  refine cwp_sound hT hm c hok ⟨_, begin_good hheap hlen hn fun j x v hx hv => ((hrep j x v hx hv).noId (hna x (List.mem_of_getElem? hx))).keep (fun b o u hn hc => ⟨hc, fun hw => hw.elim hn (hnw b o)⟩) (Ext.refl _)⟩ h fun e s' a' w' hs hr' => ?_
  obtain ⟨gb', g'⟩ := hr'
  have key : (match retC T s'.heap s'.get rs with | some v => v.viewR (sealH s'.heap) = res | none => False) → a'.defers = [] ∧ ∃ v, (results fn a'.tmps).run P w' = .ok v w' ∧ ∃ v', Ending.returned v = .returned v' ∧ Rep w' W gb res v' ∧ Below w.heap.size w w' := by
    intro hp
    refine ⟨g'.defers, ?_⟩
    split at hp
    · rename_i v hv
      obtain ⟨u, hrun, hrep⟩ := run_retC hT hr g'.ok g'.slots hv
      refine ⟨u, hrun, _, rfl, ?_, ?_⟩
      · have this := viewR_rep g'.ok.seal (hrep.less fun b o => Wr_seal)
        rw [hp] at this
        exact (this.keep (W' := W) (gb' := gb') (fun b o u hn hc => ⟨hc, fun hw => hn (.inl hw)⟩) (Ext.refl _)).noId hnr
      · have hk := g'.kept
        exact ⟨hk.os, hk.tape, hk.output, hk.size, fun k hlt => hk.block k hlt fun ⟨_, _, h, _⟩ => by cases h⟩
    · exact hp.elim
  cases e with
  | nrm => exact key hs
  | ret => exact key hs
  | ext i => exact hs.elim
end
end Go.Proofs.Ytheanmfdfoefoaa.Hv
