/- Chapter 7's statements: the small law in front of each, by the walk over a heap. -/
import Derived.Test.YtjmafbdakalknaaDoorFsOk2
import Derived.Test.YtjmafbdakalknaaDoorFsRead
set_option linter.unusedVariables false
set_option linter.unusedSimpArgs false
namespace Go.Proofs.YtjmafbdakalknaaDoor
open Go Go.RowKit Hv
set_option maxRecDepth 20000
set_option maxHeartbeats 8000000
theorem sortN_one (s : ByteArray) : FsD.sortN [s] = [s] := by
  unfold FsD.sortN
  rw [List.map_singleton, List.mergeSort_singleton, List.map_singleton]
theorem crash_eq (d : FsD) (picks : List Int) {ns : List ByteArray} (h : FsD.sortN ((lastK d ((FsD.next picks).1 % (d.wait.length + 1))).1.map (·.key)) = ns) :
    d.crash picks = { d with files := FsD.cutAll (lastK d ((FsD.next picks).1 % (d.wait.length + 1))).1 ns d.files (FsD.next picks).2, now := lastK d ((FsD.next picks).1 % (d.wait.length + 1)), last := lastK d ((FsD.next picks).1 % (d.wait.length + 1)), wait := [], off := false, armed := false } := by
  subst h; rfl
def nA : ByteArray := ⟨#[97]⟩
def nB : ByteArray := ⟨#[98]⟩
def s0 : FsD := fsNew 1000
def s1 : FsD := (s0.create nA).1
def s2 : FsD := (s1.append nA [120, 121]).1
def s3 : FsD := (s2.sync nA).1
def s4 : FsD := s3.syncDir.1
def s5 : FsD := (s4.append nA [122]).1
def s6 : FsD := (s5.create nB).1
def s7 : FsD := ⟨1000, [⟨[120, 121], 2⟩, ⟨[], 0⟩], ([⟨nA, 0, 0⟩], 1), ([⟨nA, 0, 0⟩], 1), [], false, false, 0⟩
theorem c1 : (s0.create nA).2 = 0 := by kernel_rfl
theorem c2 : (s1.append nA [120, 121]).2 = 0 := by kernel_rfl
theorem c3 : (s2.sync nA).2 = 0 := by kernel_rfl
theorem c4 : s3.syncDir.2 = 0 := by kernel_rfl
theorem c5 : (s4.append nA [122]).2 = 0 := by kernel_rfl
theorem c6 : (s5.create nB).2 = 0 := by kernel_rfl
theorem c7 : s6.crash [] = s7 := by
  rw [crash_eq s6 [] (ns := [nA]) (by rw [show (lastK s6 ((FsD.next []).1 % (s6.wait.length + 1))).1.map (·.key) = [nA] by kernel_rfl]; exact sortN_one nA)]
  kernel_rfl
theorem c8 : s7.read nA 0 9 = ([120, 121], 0) := by kernel_rfl
theorem c9 : s7.list = ([nA], 0) := by
  have : s7.names = [nA] := sortN_one nA
  unfold FsD.list
  rw [this]; rfl
theorem s1_ok : FsOk s1 := create_ok (fsNew_ok (by decide)) _
theorem s2_ok : FsOk s2 := append_ok s1_ok _ _
theorem s3_ok : FsOk s3 := sync_ok' s2_ok _
theorem s4_ok : FsOk s4 := syncDir_ok s3_ok
theorem s5_ok : FsOk s5 := append_ok s4_ok _ _
theorem s6_ok : FsOk s6 := create_ok s5_ok _
theorem s7_ok : FsOk s7 := by rw [← c7]; exact crash_ok s6_ok _
theorem w1 : s1.wait.length = 1 := by kernel_rfl
theorem w5 : s5.wait.length = 0 := by kernel_rfl
theorem w6 : s6.wait.length = 1 := by kernel_rfl
/-- A row of names, of whoever. -/
def StrsIs (H : Hp) (x : AV) (l : List ByteArray) : Prop := x = .sl (l.map strI) ∨ ∃ g m, x = .rw g 1 0 l.length ∧ H g = some (.row m 9 (l.map strI))
theorem Texts_refl {H : Hp} {n : Nat} {x y : AV} {l : List ByteArray} (hx : StrsIs H x l) (hy : StrsIs H y l) (hl : l.length ≤ 1000000) :
    HCalls Tryd.prog 32 [x, y] H n fun r H' n' => r = .lit (.bool true) ∧ H' = H ∧ n' = n := by
  refine hcallsC_of (rs := [.tmp 4]) ⟨[0, 1, 4, 5, 10, 14, 25], [], [], [(6, [(0, [], []), (1, [], []), (2, [], []), (3, [], []), (4, [], []), (5, [], []), (6, [], []), (7, [], []), (8, [], [])])]⟩ TOk mixed Tryd.func32 rfl rfl (by kernel_rfl) (by kernel_rfl) rfl ?_
  have hne : ((l.length : Int) != (l.length : Int)) = false := by simp
  rcases hx with rfl | ⟨g, m, rfl, hg⟩
  · rcases hy with rfl | ⟨g', m', rfl, hg'⟩
    · simp only [push_cast, Nat.reduceBEq, Nat.reduceAdd, Nat.reduceEqDiff, reduceCtorEq, Nat.reduceLeDiff, Nat.reduceSub, Nat.reduceMul, Nat.reduceLT, Int.reduceEq, Int.reduceLT, Int.reduceLE, Int.reduceBEq, Int.reduceBNe, Int.reduceToNat, Int.reduceNeg, Int.reduceSub, Int.reduceAdd, hne]
      refine loopK (fun q s => ∃ (k : Nat), k ≤ l.length ∧ q = l.length - k ∧ s = ⟨[(0, .sl (l.map strI)), (1, .sl (l.map strI)), (5, .lit (.int .i64 (k : Int)))], H, n⟩) _ [0, 1, 5] ⟨0, by omega, rfl, rfl⟩ ?_
      rintro q _ ⟨k, hk, rfl, rfl⟩
      by_cases h : k < l.length
      · obtain ⟨x, hx⟩ : ∃ x, l[k]? = some x := ⟨_, List.getElem?_eq_getElem h⟩
        have hw := wrap_nat0 (k := k) (by omega)
        skip
        all_goals skip
        all_goals simp only [push_cast, Nat.reduceBEq, Nat.reduceAdd, Nat.reduceEqDiff, reduceCtorEq, Nat.reduceLeDiff, Nat.reduceSub, Nat.reduceMul, Nat.reduceLT, Int.reduceEq, Int.reduceLT, Int.reduceLE, Int.reduceBEq, Int.reduceBNe, Int.reduceToNat, Int.reduceNeg, Int.reduceSub, Int.reduceAdd, h, hx, strI, strA, hw]
        all_goals exact ⟨_, by omega, k + 1, by omega, rfl, rfl⟩
      · simp only [push_cast, Nat.reduceBEq, Nat.reduceAdd, Nat.reduceEqDiff, reduceCtorEq, Nat.reduceLeDiff, Nat.reduceSub, Nat.reduceMul, Nat.reduceLT, Int.reduceEq, Int.reduceLT, Int.reduceLE, Int.reduceBEq, Int.reduceBNe, Int.reduceToNat, Int.reduceNeg, Int.reduceSub, Int.reduceAdd, h]
    · simp only [push_cast, Nat.reduceBEq, Nat.reduceAdd, Nat.reduceEqDiff, reduceCtorEq, Nat.reduceLeDiff, Nat.reduceSub, Nat.reduceMul, Nat.reduceLT, Int.reduceEq, Int.reduceLT, Int.reduceLE, Int.reduceBEq, Int.reduceBNe, Int.reduceToNat, Int.reduceNeg, Int.reduceSub, Int.reduceAdd, hne]
      refine loopK (fun q s => ∃ (k : Nat), k ≤ l.length ∧ q = l.length - k ∧ s = ⟨[(0, .sl (l.map strI)), (1, .rw g' 1 0 l.length), (5, .lit (.int .i64 (k : Int)))], H, n⟩) _ [0, 1, 5] ⟨0, by omega, rfl, rfl⟩ ?_
      rintro q _ ⟨k, hk, rfl, rfl⟩
      by_cases h : k < l.length
      · obtain ⟨x, hx⟩ : ∃ x, l[k]? = some x := ⟨_, List.getElem?_eq_getElem h⟩
        have hw := wrap_nat0 (k := k) (by omega)
        skip
        all_goals cases m'
        all_goals simp only [push_cast, Nat.reduceBEq, Nat.reduceAdd, Nat.reduceEqDiff, reduceCtorEq, Nat.reduceLeDiff, Nat.reduceSub, Nat.reduceMul, Nat.reduceLT, Int.reduceEq, Int.reduceLT, Int.reduceLE, Int.reduceBEq, Int.reduceBNe, Int.reduceToNat, Int.reduceNeg, Int.reduceSub, Int.reduceAdd, h, hx, hg', strI, strA, hw]
        all_goals exact ⟨_, by omega, k + 1, by omega, rfl, rfl⟩
      · simp only [push_cast, Nat.reduceBEq, Nat.reduceAdd, Nat.reduceEqDiff, reduceCtorEq, Nat.reduceLeDiff, Nat.reduceSub, Nat.reduceMul, Nat.reduceLT, Int.reduceEq, Int.reduceLT, Int.reduceLE, Int.reduceBEq, Int.reduceBNe, Int.reduceToNat, Int.reduceNeg, Int.reduceSub, Int.reduceAdd, h]
  · rcases hy with rfl | ⟨g', m', rfl, hg'⟩
    · simp only [push_cast, Nat.reduceBEq, Nat.reduceAdd, Nat.reduceEqDiff, reduceCtorEq, Nat.reduceLeDiff, Nat.reduceSub, Nat.reduceMul, Nat.reduceLT, Int.reduceEq, Int.reduceLT, Int.reduceLE, Int.reduceBEq, Int.reduceBNe, Int.reduceToNat, Int.reduceNeg, Int.reduceSub, Int.reduceAdd, hne]
      refine loopK (fun q s => ∃ (k : Nat), k ≤ l.length ∧ q = l.length - k ∧ s = ⟨[(0, .rw g 1 0 l.length), (1, .sl (l.map strI)), (5, .lit (.int .i64 (k : Int)))], H, n⟩) _ [0, 1, 5] ⟨0, by omega, rfl, rfl⟩ ?_
      rintro q _ ⟨k, hk, rfl, rfl⟩
      by_cases h : k < l.length
      · obtain ⟨x, hx⟩ : ∃ x, l[k]? = some x := ⟨_, List.getElem?_eq_getElem h⟩
        have hw := wrap_nat0 (k := k) (by omega)
        cases m
        all_goals skip
        all_goals simp only [push_cast, Nat.reduceBEq, Nat.reduceAdd, Nat.reduceEqDiff, reduceCtorEq, Nat.reduceLeDiff, Nat.reduceSub, Nat.reduceMul, Nat.reduceLT, Int.reduceEq, Int.reduceLT, Int.reduceLE, Int.reduceBEq, Int.reduceBNe, Int.reduceToNat, Int.reduceNeg, Int.reduceSub, Int.reduceAdd, h, hx, hg, strI, strA, hw]
        all_goals exact ⟨_, by omega, k + 1, by omega, rfl, rfl⟩
      · simp only [push_cast, Nat.reduceBEq, Nat.reduceAdd, Nat.reduceEqDiff, reduceCtorEq, Nat.reduceLeDiff, Nat.reduceSub, Nat.reduceMul, Nat.reduceLT, Int.reduceEq, Int.reduceLT, Int.reduceLE, Int.reduceBEq, Int.reduceBNe, Int.reduceToNat, Int.reduceNeg, Int.reduceSub, Int.reduceAdd, h]
    · simp only [push_cast, Nat.reduceBEq, Nat.reduceAdd, Nat.reduceEqDiff, reduceCtorEq, Nat.reduceLeDiff, Nat.reduceSub, Nat.reduceMul, Nat.reduceLT, Int.reduceEq, Int.reduceLT, Int.reduceLE, Int.reduceBEq, Int.reduceBNe, Int.reduceToNat, Int.reduceNeg, Int.reduceSub, Int.reduceAdd, hne]
      refine loopK (fun q s => ∃ (k : Nat), k ≤ l.length ∧ q = l.length - k ∧ s = ⟨[(0, .rw g 1 0 l.length), (1, .rw g' 1 0 l.length), (5, .lit (.int .i64 (k : Int)))], H, n⟩) _ [0, 1, 5] ⟨0, by omega, rfl, rfl⟩ ?_
      rintro q _ ⟨k, hk, rfl, rfl⟩
      by_cases h : k < l.length
      · obtain ⟨x, hx⟩ : ∃ x, l[k]? = some x := ⟨_, List.getElem?_eq_getElem h⟩
        have hw := wrap_nat0 (k := k) (by omega)
        cases m
        all_goals cases m'
        all_goals simp only [push_cast, Nat.reduceBEq, Nat.reduceAdd, Nat.reduceEqDiff, reduceCtorEq, Nat.reduceLeDiff, Nat.reduceSub, Nat.reduceMul, Nat.reduceLT, Int.reduceEq, Int.reduceLT, Int.reduceLE, Int.reduceBEq, Int.reduceBNe, Int.reduceToNat, Int.reduceNeg, Int.reduceSub, Int.reduceAdd, h, hx, hg, hg', strI, strA, hw]
        all_goals exact ⟨_, by omega, k + 1, by omega, rfl, rfl⟩
      · simp only [push_cast, Nat.reduceBEq, Nat.reduceAdd, Nat.reduceEqDiff, reduceCtorEq, Nat.reduceLeDiff, Nat.reduceSub, Nat.reduceMul, Nat.reduceLT, Int.reduceEq, Int.reduceLT, Int.reduceLE, Int.reduceBEq, Int.reduceBNe, Int.reduceToNat, Int.reduceNeg, Int.reduceSub, Int.reduceAdd, h]
theorem chain_h {H H1 H2 : Hp} {n n1 : Nat} {S1 S2 : Nat → Prop} (a : ∀ j, j < n → H1 j = H j) (b : ∀ j, S1 j → n ≤ j) (hn : n ≤ n1) (hT : ∀ j, S2 j → S1 j ∨ n1 ≤ j) (hk : ∀ j, j < n1 → ¬ S1 j → H2 j = H1 j) : (∀ j, j < n → H2 j = H j) ∧ ∀ j, S2 j → n ≤ j :=
  ⟨fun j hj => (hk j (by omega) fun hs => by have := b j hs; omega).trans (a j hj), fun j hs => (hT j hs).elim (b j) fun h => by omega⟩
theorem fresh_h {H H1 : Hp} {n n1 : Nat} {o : Option AO} (a : ∀ j, j < n → H1 j = H j) (hn : n ≤ n1) : ∀ j, j < n → upd H1 n1 o j = H j := fun j hj => (upd_other (by omega)).trans (a j hj)
theorem files_h {H : Hp} {n : Nat} : HCalls Tryd.prog 10 [] H n fun r H' n' => r = .lit (.bool true) ∧ n ≤ n' ∧ ∀ j, j < n → H' j = H j := by
  refine hcallsC_of (rs := [.tmp 0]) ⟨[0, 1, 2, 3, 4, 5, 45], [], [], []⟩ TOk mixed Tryd.func10 rfl rfl (by kernel_rfl) (by kernel_rfl) rfl ?_
  simp only [push_cast, Nat.reduceBEq, Nat.reduceAdd, Nat.reduceEqDiff, reduceCtorEq, Nat.reduceLeDiff, Nat.reduceSub, Nat.reduceMul, Nat.reduceLT, Int.reduceEq, Int.reduceLT, Int.reduceLE, Int.reduceBEq, Int.reduceBNe, Int.reduceToNat, Int.reduceNeg, Int.reduceSub, Int.reduceAdd]
  refine callH (new_h (by decide)) ?_
  rintro _ H0 n0 ⟨rfl, S0, L0, h0, hn0, hS0, hT0, hk0⟩
  change FsH H0 S0 (n + 2) L0 s0 at h0
  try dsimp only at hn0 hS0 hT0 hk0
  obtain ⟨a0, b0⟩ := chain_h (H := H) (n := n) (fun _ _ => rfl) (fun _ h => h.elim) (Nat.le_refl n) hT0 hk0
  simp only [push_cast, Nat.reduceBEq, Nat.reduceAdd, Nat.reduceEqDiff, reduceCtorEq, Nat.reduceLeDiff, Nat.reduceSub, Nat.reduceMul, Nat.reduceLT, Int.reduceEq, Int.reduceLT, Int.reduceLE, Int.reduceBEq, Int.reduceBNe, Int.reduceToNat, Int.reduceNeg, Int.reduceSub, Int.reduceAdd]
  refine callH (create_h h0 (fsNew_ok (by decide)) hS0 (by decide) nA) ?_
  rintro _ H1 n1 ⟨rfl, S1, L1, h1, hn1, hS1, hT1, hk1⟩
  change FsH H1 S1 (n + 2) L1 s1 at h1
  try dsimp only at hn1 hS1 hT1 hk1
  obtain ⟨a1, b1⟩ := chain_h a0 b0 (by omega) hT1 hk1
  simp only [push_cast, Nat.reduceBEq, Nat.reduceAdd, Nat.reduceEqDiff, reduceCtorEq, Nat.reduceLeDiff, Nat.reduceSub, Nat.reduceMul, Nat.reduceLT, Int.reduceEq, Int.reduceLT, Int.reduceLE, Int.reduceBEq, Int.reduceBNe, Int.reduceToNat, Int.reduceNeg, Int.reduceSub, Int.reduceAdd, c1]
  refine callH (append_h (h1.frame fun j hj => upd_other (by have := hS1 j hj; omega)) s1_ok (fun j hj => by have := hS1 j hj; show j < n1 + 1; omega) nA (b := [120, 121]) (.inl ⟨n1, _, rfl, Nat.lt_succ_self _, fun hs => by have := hS1 _ hs; omega, upd_same _ _ _⟩) (by decide)) ?_
  rintro _ H2 n2 ⟨rfl, S2, L2, h2, hn2, hS2, hT2, hk2⟩
  change FsH H2 S2 (n + 2) L2 s2 at h2
  try dsimp only at hn2 hS2 hT2 hk2
  obtain ⟨a2, b2⟩ := chain_h (fresh_h a1 (by omega)) b1 (by omega) hT2 hk2
  simp only [push_cast, Nat.reduceBEq, Nat.reduceAdd, Nat.reduceEqDiff, reduceCtorEq, Nat.reduceLeDiff, Nat.reduceSub, Nat.reduceMul, Nat.reduceLT, Int.reduceEq, Int.reduceLT, Int.reduceLE, Int.reduceBEq, Int.reduceBNe, Int.reduceToNat, Int.reduceNeg, Int.reduceSub, Int.reduceAdd, c2]
  refine callH (sync_h h2 s2_ok hS2 nA) ?_
  rintro _ H3 n3 ⟨rfl, S3, L3, h3, hn3, hS3, hT3, hk3⟩
  change FsH H3 S3 (n + 2) L3 s3 at h3
  try dsimp only at hn3 hS3 hT3 hk3
  obtain ⟨a3, b3⟩ := chain_h a2 b2 (by omega) hT3 hk3
  simp only [push_cast, Nat.reduceBEq, Nat.reduceAdd, Nat.reduceEqDiff, reduceCtorEq, Nat.reduceLeDiff, Nat.reduceSub, Nat.reduceMul, Nat.reduceLT, Int.reduceEq, Int.reduceLT, Int.reduceLE, Int.reduceBEq, Int.reduceBNe, Int.reduceToNat, Int.reduceNeg, Int.reduceSub, Int.reduceAdd, c3]
  refine callH (syncDir_h h3 s3_ok hS3) ?_
  rintro _ H4 n4 ⟨rfl, S4, L4, h4, hn4, hS4, hT4, hk4⟩
  change FsH H4 S4 (n + 2) L4 s4 at h4
  try dsimp only at hn4 hS4 hT4 hk4
  obtain ⟨a4, b4⟩ := chain_h a3 b3 (by omega) hT4 hk4
  simp only [push_cast, Nat.reduceBEq, Nat.reduceAdd, Nat.reduceEqDiff, reduceCtorEq, Nat.reduceLeDiff, Nat.reduceSub, Nat.reduceMul, Nat.reduceLT, Int.reduceEq, Int.reduceLT, Int.reduceLE, Int.reduceBEq, Int.reduceBNe, Int.reduceToNat, Int.reduceNeg, Int.reduceSub, Int.reduceAdd, c4]
  refine callH (append_h (h4.frame fun j hj => upd_other (by have := hS4 j hj; omega)) s4_ok (fun j hj => by have := hS4 j hj; show j < n4 + 1; omega) nA (b := [122]) (.inl ⟨n4, _, rfl, Nat.lt_succ_self _, fun hs => by have := hS4 _ hs; omega, upd_same _ _ _⟩) (by decide)) ?_
  rintro _ H5 n5 ⟨rfl, S5, L5, h5, hn5, hS5, hT5, hk5⟩
  change FsH H5 S5 (n + 2) L5 s5 at h5
  try dsimp only at hn5 hS5 hT5 hk5
  obtain ⟨a5, b5⟩ := chain_h (fresh_h a4 (by omega)) b4 (by omega) hT5 hk5
  simp only [push_cast, Nat.reduceBEq, Nat.reduceAdd, Nat.reduceEqDiff, reduceCtorEq, Nat.reduceLeDiff, Nat.reduceSub, Nat.reduceMul, Nat.reduceLT, Int.reduceEq, Int.reduceLT, Int.reduceLE, Int.reduceBEq, Int.reduceBNe, Int.reduceToNat, Int.reduceNeg, Int.reduceSub, Int.reduceAdd, c5]
  refine callH (create_h h5 s5_ok hS5 (by rw [w5]; decide) nB) ?_
  rintro _ H6 n6 ⟨rfl, S6, L6, h6, hn6, hS6, hT6, hk6⟩
  change FsH H6 S6 (n + 2) L6 s6 at h6
  try dsimp only at hn6 hS6 hT6 hk6
  obtain ⟨a6, b6⟩ := chain_h a5 b5 (by omega) hT6 hk6
  simp only [push_cast, Nat.reduceBEq, Nat.reduceAdd, Nat.reduceEqDiff, reduceCtorEq, Nat.reduceLeDiff, Nat.reduceSub, Nat.reduceMul, Nat.reduceLT, Int.reduceEq, Int.reduceLT, Int.reduceLE, Int.reduceBEq, Int.reduceBNe, Int.reduceToNat, Int.reduceNeg, Int.reduceSub, Int.reduceAdd, c6]
  refine callH (crash_h h6 s6_ok hS6 (by rw [w6]; decide) (.inl ⟨rfl, rfl⟩)) ?_
  rintro _ H7 n7 ⟨rfl, S7, L7, h7, hn7, hS7, hT7, hk7⟩
  try dsimp only at h7 hn7 hS7 hT7 hk7
  obtain ⟨a7, b7⟩ := chain_h a6 b6 (by omega) hT7 hk7
  rw [c7] at h7
  simp only [push_cast, Nat.reduceBEq, Nat.reduceAdd, Nat.reduceEqDiff, reduceCtorEq, Nat.reduceLeDiff, Nat.reduceSub, Nat.reduceMul, Nat.reduceLT, Int.reduceEq, Int.reduceLT, Int.reduceLE, Int.reduceBEq, Int.reduceBNe, Int.reduceToNat, Int.reduceNeg, Int.reduceSub, Int.reduceAdd]
  refine callH (read_h h7 s7_ok hS7 nA 0 9 (by decide)) ?_
  rintro _ H8 n8 h8
  rw [c8] at h8
  obtain ⟨hn8, hk8, res, rfl, ⟨_, hh⟩ | ⟨g, m, rfl, hg1, hg2, hg, hm⟩⟩ := h8
  · cases hh
  · simp only [push_cast, Nat.reduceBEq, Nat.reduceAdd, Nat.reduceEqDiff, reduceCtorEq, Nat.reduceLeDiff, Nat.reduceSub, Nat.reduceMul, Nat.reduceLT, Int.reduceEq, Int.reduceLT, Int.reduceLE, Int.reduceBEq, Int.reduceBNe, Int.reduceToNat, Int.reduceNeg, Int.reduceSub, Int.reduceAdd]
    refine callH (list_h (h7.frame fun j hj => hk8 j (hS7 j hj)) s7_ok (fun j hj => by have := hS7 j hj; show j < n8; omega)) ?_
    rintro _ H9 n9 h9
    rw [c9] at h9
    obtain ⟨hn9, hk9, res, rfl, ⟨_, hh⟩ | ⟨g', m', rfl, hg1', hg2', hg', hm'⟩⟩ := h9
    · cases hh
    · have hg9 : H9 g = some (.row m 5 [[.lit (.int .u8 120)], [.lit (.int .u8 121)]]) := (hk9 g hg2).trans hg
      have hb : bytesOf [[AV.lit (.int .u8 120)], [.lit (.int .u8 121)]] = some [120, 121] := by kernel_rfl
      have hs : strOfNums [120, 121] = ⟨#[120, 121]⟩ := by kernel_rfl
      have hq : ((⟨#[120, 121]⟩ : ByteArray) == ⟨#[120, 121]⟩) = true := by kernel_rfl
      cases m <;> simp only [push_cast, Nat.reduceBEq, Nat.reduceAdd, Nat.reduceEqDiff, reduceCtorEq, Nat.reduceLeDiff, Nat.reduceSub, Nat.reduceMul, Nat.reduceLT, Int.reduceEq, Int.reduceLT, Int.reduceLE, Int.reduceBEq, Int.reduceBNe, Int.reduceToNat, Int.reduceNeg, Int.reduceSub, Int.reduceAdd, hg9, hb, hs, hq]
      all_goals refine callH (Texts_refl (l := [nA]) (.inr ⟨g', m', rfl, (upd_other (by omega)).trans hg'⟩) (.inr ⟨n9, _, rfl, upd_same _ _ _⟩) (by decide)) ?_
      all_goals rintro _ _ _ ⟨rfl, rfl, rfl⟩
      all_goals simp only [push_cast, Nat.reduceBEq, Nat.reduceAdd, Nat.reduceEqDiff, reduceCtorEq, Nat.reduceLeDiff, Nat.reduceSub, Nat.reduceMul, Nat.reduceLT, Int.reduceEq, Int.reduceLT, Int.reduceLE, Int.reduceBEq, Int.reduceBNe, Int.reduceToNat, Int.reduceNeg, Int.reduceSub, Int.reduceAdd]
      all_goals have q9 : n8 ≤ n9 := hn9
      all_goals have q8 : n7 ≤ n8 := hn8
      all_goals exact ⟨(by omega : n ≤ n9 + 1), fun j hj => by
        have e : (n9 == j) = false := nb (by omega)
        rw [e]
        exact (hk9 j (by show j < n8; omega)).trans ((hk8 j (by show j < n7; omega)).trans (a7 j hj))⟩
end Go.Proofs.YtjmafbdakalknaaDoor
