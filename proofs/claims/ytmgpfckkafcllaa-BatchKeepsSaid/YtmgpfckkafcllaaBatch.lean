/- Package batch: what its changes are, and the walks. -/
import Derived.Test.YtmgpfckkafcllaaVarint
namespace Go.Proofs.Ytmgpfckkafcllaa
open Go Go.RowKit

/-- A change. -/
structure OpD where
  kind : Int
  key : ByteArray
  val : ByteArray
def opC (o : OpD) : List Value := [.int .i64 o.kind, .string o.key, .string o.val]
theorem opC_len (o : OpD) : (opC o).length = 3 := rfl
def opV (o : OpD) : Value := .agg #[.int .i64 o.kind, .string o.key, .string o.val]

theorem et_ops : ElemT Try.prog 22 24 (.agg #[.int .i64 0, .string ⟨#[]⟩, .string ⟨#[]⟩]) 3 40 := .mk' Try.underlying22 (by kernel_rfl) rfl (by decide) (by decide)

def longB (o : OpD) : Bool := decide (64 < o.key.size) || decide (1000 < o.val.size)

set_option maxRecDepth 100000 in
set_option maxHeartbeats 400000 in
theorem long_calls (o : OpD) (w : World) : Calls Try.prog 32 #[.agg #[.int .i64 o.kind, .string o.key, .string o.val]] w fun e w' => e = .returned (.bool (longB o)) ∧ Below w.heap.size w w' := by
  unfold longB
  by_cases h1 : 64 < o.key.size
  · have h1' : (64 : Int) < o.key.size := by omega
    go_enter Try.func32, Try.ntmps32
    go_wp2
    go_ret
    exact ⟨by simp [h1], (Below.refl _ _).alloc (Nat.le_refl _) _⟩
  · have h1' : ¬ (64 : Int) < o.key.size := by omega
    go_enter Try.func32, Try.ntmps32
    go_wp2
    go_ret
    exact ⟨ret_bool (by rw [Bool.eq_iff_iff]; simp; omega), (Below.refl _ _).alloc (Nat.le_refl _) _⟩

def oddB (o : OpD) : Bool := o.key.toList.isEmpty || (o.kind != 0 && o.kind != 1) || (o.kind == 0 && !o.val.toList.isEmpty)
set_option maxRecDepth 100000 in
set_option maxHeartbeats 400000 in
theorem odd_calls (o : OpD) (w : World) : Calls Try.prog 33 #[.agg #[.int .i64 o.kind, .string o.key, .string o.val]] w fun e w' => e = .returned (.bool (oddB o)) ∧ Below w.heap.size w w' := by
  go_enter Try.func33, Try.ntmps33
  go_wp2
  all_goals (go_ret; exact ⟨ret_bool (by simp [oddB, *]), (Below.refl _ _).alloc (Nat.le_refl _) _⟩)

/-- slices.IndexFunc, at a function value that captures nothing. -/
def idxF (p : OpD → Bool) : List OpD → Nat → Int
  | [], _ => -1
  | o :: l, k => if p o then k else idxF p l (k + 1)
theorem idxF_drop (p : OpD → Bool) (l : List OpD) (k : Nat) (hk : k < l.length) : idxF p (l.drop k) k = if p l[k] then (k : Int) else idxF p (l.drop (k + 1)) (k + 1) := by
  rw [List.drop_eq_getElem_cons hk]; rfl
set_option maxRecDepth 100000 in
set_option maxHeartbeats 400000 in
theorem IndexFunc_calls (g : Nat) (p : OpD → Bool) (heg : ∀ (args : Array Value) (w : World), (callFunc g args).run Try.prog w = .ok (.enter g args) w)
    (hg : ∀ (o : OpD) (w : World), Calls Try.prog g #[.agg #[.int .i64 o.kind, .string o.key, .string o.val]] w fun e w' => e = .returned (.bool (p o)) ∧ Below w.heap.size w w')
    (l : List OpD) (v : Value) (w : World) (hv : RdT w 3 opC v l) :
    Calls Try.prog 46 #[v, .func (.func g) #[] #[]] w fun e w' => e = .returned (.int .i64 (idxF p l 0)) ∧ Below w.heap.size w w' := by
  have HG := Lib.hid hg
  clear hg
  have HV := Lib.hid hv
  obtain ⟨A, c, rfl, hnc, hcm, _, _⟩ := hv
  unfold maxLen at hcm
  go_enter Try.func46, Try.ntmps46
  go_wp2_with fail
  go_loopw [8] (fun iv wr => ∃ k : Nat, k ≤ l.length ∧ iv = .int .i64 (k : Int) ∧ Hid (idxF p l 0 = idxF p (l.drop k) k) ∧ Below w.heap.size w wr)
    (fun iv _ => l.length - (intOf iv).toNat)
  case atStart => exact ⟨0, Nat.zero_le _, rfl, rfl, Below.refl _ _⟩
  case round =>
    obtain ⟨k, hk, rfl, hidx, hb⟩ := hrel
    by_cases hkl : k < l.length
    · have hkl' : (k : Int) < l.length := by omega
      obtain ⟨b, off, c', hA, hblt, _, _, hcell⟩ := (RdT.at HV.out opC_len (by omega) hkl)
      injection hA with hA _ hcc
      subst hA hcc
      have hcw : ∀ j u, (opC l[k])[j]? = some u → wr.cell? ⟨b, off + k * 3 + j, none⟩ = some u := fun j u hu => (hb.cell (p := ⟨b, _, none⟩) hblt).trans (hcell j u hu)
      have c0 : wr.cell? ⟨b, off + k * 3, none⟩ = some (.int .i64 l[k].kind) := hcw 0 _ rfl
      have c1 : wr.cell? ⟨b, off + k * 3 + 1, none⟩ = some (.string l[k].key) := hcw 1 _ rfl
      have c2 : wr.cell? ⟨b, off + k * 3 + 2, none⟩ = some (.string l[k].val) := hcw 2 _ rfl
      clear hcw hcell
      go_wp2_with (first | (refine (HG.out l[k] _).mono ?_; rintro e w1 ⟨rfl, hb1⟩))
      · have hp : p l[k] = true := by assumption
        go_ret
        exact ⟨ret_int (by rw [hidx.out, idxF_drop p l k hkl, if_pos hp]), hb.trans (hb1.mono hb.size)⟩
      · have hp : p l[k] = false := by assumption
        go_roundw
        case rel => exact ⟨k + 1, by omega, by go_num, by rw [hidx.out, idxF_drop p l k hkl, hp]; rfl, hb.trans (hb1.mono hb.size)⟩
        case measure => simp [intOf]; omega
    · obtain rfl : k = l.length := by omega
      go_wp2_with fail
      go_ret
      exact ⟨ret_int (by rw [hidx.out]; simp [idxF]), hb⟩
theorem idxF_nonneg (p : OpD → Bool) : ∀ (l : List OpD) (k : Nat), decide (0 ≤ idxF p l k) = l.any p := by
  intro l
  induction l with
  | nil => intro k; simp [idxF]
  | cons o l ih =>
    intro k
    simp only [idxF, List.any_cons]
    split
    · rename_i h; simp [h]
    · rename_i h; rw [ih]; simp [h]

set_option maxRecDepth 100000 in
set_option maxHeartbeats 400000 in
theorem ContainsFunc_calls (g : Nat) (p : OpD → Bool) (heg : ∀ (args : Array Value) (w : World), (callFunc g args).run Try.prog w = .ok (.enter g args) w)
    (hg : ∀ (o : OpD) (w : World), Calls Try.prog g #[.agg #[.int .i64 o.kind, .string o.key, .string o.val]] w fun e w' => e = .returned (.bool (p o)) ∧ Below w.heap.size w w')
    (l : List OpD) (v : Value) (w : World) (hv : RdT w 3 opC v l) :
    Calls Try.prog 34 #[v, .func (.func g) #[] #[]] w fun e w' => e = .returned (.bool (l.any p)) ∧ Below w.heap.size w w' := by
  have HI := Lib.hid (IndexFunc_calls g p heg hg l v w hv)
  clear hg heg hv
  go_enter Try.func34, Try.ntmps34
  go_wp2_with (first | (go_at_call 46; refine HI.out.mono ?_; rintro e w1 ⟨rfl, hb1⟩))
  go_ret
  exact ⟨ret_bool (idxF_nonneg p l 0), hb1⟩

/-- batch.Check. -/
def checkB (seq : Int) (l : List OpD) : Int :=
  if 200 < l.length ∨ l.any longB = true then 14
  else if l.length = 0 ∨ l.any oddB = true then 2
  else if seq < 1 ∨ 72057594037927935 - (l.length : Int) + 1 < seq then 1
  else 0
set_option maxRecDepth 100000 in
set_option maxHeartbeats 400000 in
theorem Check_calls (seq : Int) (l : List OpD) (v : Value) (w : World) (hv : RdT w 3 opC v l) :
    Calls Try.prog 15 #[.int .i64 seq, v] w fun e w' => e = .returned (.int .i64 (checkB seq l)) ∧ Below w.heap.size w w' := by
  have hcl : ∀ (g : Nat) (p : OpD → Bool) (heg : ∀ (args : Array Value) (w : World), (callFunc g args).run Try.prog w = .ok (.enter g args) w)
    (hg : ∀ (o : OpD) (w : World), Calls Try.prog g #[.agg #[.int .i64 o.kind, .string o.key, .string o.val]] w fun e w' => e = .returned (.bool (p o)) ∧ Below w.heap.size w w') (w' : World),
    Below w.heap.size w w' → Calls Try.prog 34 #[v, .func (.func g) #[] #[]] w' fun e w'' => e = .returned (.bool (l.any p)) ∧ Below w'.heap.size w' w'' :=
    fun g p heg hg w' hb => ContainsFunc_calls g p heg hg l v w' (hv.below hb)
  have H1 := Lib.hid (fun w' hb => hcl 32 longB (fun _ _ => by kernel_rfl) long_calls w' hb)
  have H2 := Lib.hid (fun w' hb => hcl 33 oddB (fun _ _ => by kernel_rfl) odd_calls w' hb)
  clear hcl
  obtain ⟨A, c, rfl, hnc, hcm, _, _⟩ := hv
  unfold maxLen at hcm
  have HC : Hid (checkB seq l = if 200 < l.length ∨ l.any longB = true then 14
    else if l.length = 0 ∨ l.any oddB = true then 2
    else if seq < 1 ∨ 72057594037927935 - (l.length : Int) + 1 < seq then 1
    else 0) := rfl
  obtain ⟨r, hr⟩ : ∃ r, checkB seq l = r := ⟨_, rfl⟩
  rw [hr] at HC ⊢
  clear hr
  rename_i hx1 hx2
  clear hx1 hx2
  by_cases h1 : (200 : Int) < l.length
  · go_enter Try.func15, Try.ntmps15
    go_wp2_with fail
    go_ret
    exact ⟨ret_int (by rw [HC.out, if_pos (Or.inl (by omega))]), Below.refl _ _⟩
  · have hs : (l.length : Int) ≤ 200 := by omega
    go_enter Try.func15, Try.ntmps15
    go_wp2_with (first
      | ((with_reducible refine (H1.out _ (Below.refl _ _)).mono ?_); rintro e w1 ⟨rfl, hb1⟩)
      | ((with_reducible refine (H2.out _ (by assumption)).mono ?_); rintro e w2 ⟨rfl, hb2⟩))
    all_goals
      have hn : ¬ 200 < l.length := by omega
      go_ret
      refine ⟨ret_int ?_, by first | exact hb1 | exact hb1.trans (hb2.mono hb1.size)⟩
      clear H1 H2
      rw [HC.out]
      clear HC hb1 hs
      generalize l.any longB = bl at *
      generalize l.any oddB = bo at *
      try clear hb2
      repeat' split
      all_goals first
        | rfl
        | (exfalso; simp_all; done)
        | (exfalso; simp_all <;> omega)
#print axioms Check_calls
end Go.Proofs.Ytmgpfckkafcllaa
