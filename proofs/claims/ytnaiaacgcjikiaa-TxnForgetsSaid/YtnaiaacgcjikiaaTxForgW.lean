/- Chapter 21's statement TxnForgets: lemmas of its own ahead of the walk. -/
import Derived.Test.YtnaiaacgcjikiaaTxTwo
set_option linter.unusedVariables false
set_option linter.unusedSimpArgs false
namespace Go.Proofs.Ytnaiaacgcjikiaa
open Go Go.RowKit Hv
set_option maxRecDepth 20000
set_option maxHeartbeats 8000000
theorem opsRefl_h {H : Hp} {n g g' : Nat} {l : List OpD} (hg : H g = some (.row false 39 (l.map opI))) (hg' : H g' = some (.row false 39 (l.map opI))) (hl : l.length ≤ 1000000) :
    HCalls Try.prog 18 [.rw g 3 0 l.length, .rw g' 3 0 l.length] H n fun r H' n' => r = .lit (.bool true) ∧ H' = H ∧ n' = n := by
  refine hcallsC_of (rs := [.tmp 4]) ⟨[0, 1, 4, 5, 10, 14, 25], [], [], [(6, [(0, [], []), (1, [], []), (2, [], []), (3, [], []), (4, [], []), (5, [], []), (6, [], []), (7, [], []), (8, [], [])])]⟩ TOk mixed Try.func18 rfl rfl (by kernel_rfl) (by kernel_rfl) rfl ?_
  have hne : ((l.length : Int) != (l.length : Int)) = false := by simp
  have hbl : Nat.ble l.length (l.map opI).length = true := by rw [Nat.ble_eq, List.length_map]; exact Nat.le_refl _
  have htk : List.take l.length (l.map opI) = l.map opI := List.take_of_length_le (by rw [List.length_map]; exact Nat.le_refl _)
  simp only [push_cast, Nat.reduceBEq, Nat.reduceAdd, Nat.reduceEqDiff, reduceCtorEq, Nat.reduceLeDiff, Nat.reduceSub, Nat.reduceMul, Nat.reduceLT, Int.reduceEq, Int.reduceLT, Int.reduceLE, Int.reduceBEq, Int.reduceBNe, Int.reduceToNat, Int.reduceNeg, Int.reduceSub, Int.reduceAdd, hne]
  refine loopK (fun q s => ∃ (k : Nat), k ≤ l.length ∧ q = l.length - k ∧ s = ⟨[(0, .rw g 3 0 l.length), (1, .rw g' 3 0 l.length), (5, .lit (.int .i64 (k : Int)))], H, n⟩) _ [0, 1, 5] ⟨0, by omega, rfl, rfl⟩ ?_
  rintro q _ ⟨k, hk, rfl, rfl⟩
  by_cases h : k < l.length
  · obtain ⟨x, hx⟩ : ∃ x, l[k]? = some x := ⟨_, List.getElem?_eq_getElem h⟩
    have hw := wrap_nat0 (k := k) (by omega)
    have h' : (k : Int) < (l.length : Int) := by omega
    simp only [push_cast, Nat.reduceBEq, Nat.reduceAdd, Nat.reduceEqDiff, reduceCtorEq, Nat.reduceLeDiff, Nat.reduceSub, Nat.reduceMul, Nat.reduceLT, Int.reduceEq, Int.reduceLT, Int.reduceLE, Int.reduceBEq, Int.reduceBNe, Int.reduceToNat, Int.reduceNeg, Int.reduceSub, Int.reduceAdd, h, h', hx, opI, hw, hbl, htk, hg, hg']
    exact ⟨_, by omega, k + 1, by omega, rfl, rfl⟩
  · simp only [push_cast, Nat.reduceBEq, Nat.reduceAdd, Nat.reduceEqDiff, reduceCtorEq, Nat.reduceLeDiff, Nat.reduceSub, Nat.reduceMul, Nat.reduceLT, Int.reduceEq, Int.reduceLT, Int.reduceLE, Int.reduceBEq, Int.reduceBNe, Int.reduceToNat, Int.reduceNeg, Int.reduceSub, Int.reduceAdd, h]
/-- A mark: the walk's simp stops ahead of this code. -/
def stopC (c : Code) : Code := c
theorem stopC_eq (c : Code) : stopC c = c := rfl
/-- A mark: simp does not look inside. -/
def stopK (K : AS → Prop) (s : AS) : Prop := K s
theorem stopK_eq (K : AS → Prop) : stopK K = K := rfl
def abtErr (t : TxnD) : Int := if t.over then 12 else 0
def SysD.abt (D : SysD) (i : Nat) (t : TxnD) : SysD := if t.over then D else D.ended i t D.notes
theorem abt_c {H : Hp} {n b : Nat} {S : Nat → Prop} {Ps : List (Nat × Nat)} {D : SysD} (h : Sys H n S b Ps D) {i : Nat} {x : Nat × Nat} {t : TxnD} (hx : Ps[i]? = some x) (ht : D.txns[i]? = some t) :
    HCalls Try.prog 14 [.ptr b 0, .ptr x.1 0] H n (SysP H n S b Ps (D.abt i t) (.lit (.int .i64 (abtErr t)))) := by
  cases ho : t.over with
  | false =>
    have e1 : D.abt i t = D.ended i t D.notes := by unfold SysD.abt; rw [ho]; rfl
    have e2 : abtErr t = 0 := by unfold abtErr; rw [ho]; rfl
    rw [e1, e2]
    exact abort_c h hx ht ho
  | true =>
    have e1 : D.abt i t = D := by unfold SysD.abt; rw [ho]; rfl
    have e2 : abtErr t = 12 := by unfold abtErr; rw [ho]; rfl
    rw [e1, e2]
    obtain ⟨N, d, hb, h1, h2, h3, h4, h5, tx0, tx1, h6, h7, h8⟩ := h.ex
    obtain ⟨r1, s1, s2⟩ := h.tx i x t hx ht
    refine hcallsC_of (rs := [.tmp 4]) ⟨[0, 1, 4, 5, 21], [], [], []⟩ TOk mixed Try.func14 rfl rfl (by kernel_rfl) (by kernel_rfl) rfl ?_
    have bk := hb.bk
    have hd := hb.hd
    have tx0 := r1.tx
    rw [ho] at tx0
    obtain ⟨j, y, g1, g2, g3, g4, hf⟩ := pfind_all (vA := boolA) (h6 i x hx)
    have hf := hf H hb.hdV
    simp only [boolA] at hf
    simp only [push_cast, Nat.reduceBEq, Nat.reduceAdd, Nat.reduceEqDiff, reduceCtorEq, Nat.reduceLeDiff, Nat.reduceSub, Nat.reduceMul, Nat.reduceLT, Int.reduceEq, Int.reduceLT, Int.reduceLE, Int.reduceBEq, Int.reduceBNe, Int.reduceToNat, Int.reduceNeg, Int.reduceSub, Int.reduceAdd, bk, hd, tx0, hf, Hv.pks28]
    exact sysP_of (Nat.le_refl _) h fun j hj hs => rfl
theorem Same.abt {Da Db : SysD} {top : Int} (h : Same Da Db top) {i : Nat} {t : TxnD} (ht : Da.txns[i]? = some t) : Same (Da.abt i t) (Db.abt i t) top := by
  unfold SysD.abt
  split
  · exact h
  · exact h.abort ht
theorem sysOps_len {H : Hp} {n b : Nat} {S : Nat → Prop} {Ps : List (Nat × Nat)} {D : SysD} (h : Sys H n S b Ps D) {i : Nat} {t : TxnD} (ht : D.txns[i]? = some t) : (opsOf t).length ≤ 200 := by
  obtain ⟨x, hx, r, _⟩ := h.txn ht
  have := r.len
  unfold opsOf
  split
  · exact Nat.zero_le _
  · rw [opsL_len]; exact this
/-- What a call of one transaction leaves. -/
structure StepD (D D' : SysD) (k : Nat) (t' : TxnD) : Prop where
  len : D'.txns.length = D.txns.length
  opn : openN D' ≤ openN D
  at' : D'.txns[k]? = some t'
theorem StepD.set {D D' : SysD} {k : Nat} {t t' : TxnD} (ht : D.txns[k]? = some t) (he : D'.txns = D.txns.set k t') (ho : t'.over = false → t.over = false) : StepD D D' k t' := by
  have hlt := lt_of_some ht
  refine ⟨by rw [he, List.length_set], ?_, by rw [he, List.getElem?_set_self hlt]⟩
  have hset := filter_set (p := fun t : TxnD => !t.over) (t' := t') ht
  unfold openN
  rw [he]
  cases h1 : t'.over with
  | true =>
    simp only [h1, Bool.not_true, Bool.false_eq_true, if_false] at hset
    omega
  | false =>
    simp only [h1, ho h1, Bool.not_false, if_true] at hset
    omega
theorem StepD.refl {D : SysD} {k : Nat} {t : TxnD} (ht : D.txns[k]? = some t) : StepD D D k t := ⟨rfl, Nat.le_refl _, ht⟩
theorem step_put {D : SysD} {k : Nat} {t : TxnD} (ht : D.txns[k]? = some t) (o : OpD) : StepD D (D.put k t o) k (chTxn t o) := .set ht rfl fun h => by rw [chTxn_over] at h; exact h
theorem step_ended {D : SysD} {k : Nat} {t : TxnD} (ht : D.txns[k]? = some t) (x : List (Ent Nm Int) × Nat) : StepD D (D.ended k t x) k t.ended := .set ht rfl fun h => by cases h
theorem step_abt {D : SysD} {k : Nat} {t : TxnD} (ht : D.txns[k]? = some t) : ∃ t', StepD D (D.abt k t) k t' := by
  unfold SysD.abt
  split
  · exact ⟨_, .refl ht⟩
  · exact ⟨_, step_ended ht _⟩
theorem step_com {D : SysD} {k : Nat} {t : TxnD} (ht : D.txns[k]? = some t) (seq : Int) : ∃ t', StepD D (D.com k t seq) k t' := by
  unfold SysD.com
  split
  · exact ⟨_, step_ended ht _⟩
  · split
    · exact ⟨_, step_ended ht _⟩
    · exact ⟨_, .refl ht⟩
end Go.Proofs.Ytnaiaacgcjikiaa
