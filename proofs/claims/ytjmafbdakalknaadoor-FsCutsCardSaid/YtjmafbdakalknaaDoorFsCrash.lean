/- Files that a crash may cut: Crash, by the walk over a heap. -/
import Derived.Test.YtjmafbdakalknaaDoorFsNext
set_option linter.unusedVariables false
set_option linter.unusedSimpArgs false
namespace Go.Proofs.YtjmafbdakalknaaDoor
open Go Go.RowKit Hv
set_option maxRecDepth 20000
set_option maxHeartbeats 8000000
theorem PicksIs.cells {H : Hp} {N : Nat} {c : AV} {l : List Int} (h : PicksIs H N c l) : AV.cells c = [c] := by
  rcases h with ⟨rfl, _⟩ | rfl | ⟨g, items, ko, rfl, _⟩ <;> rfl
theorem wrap_nat0 {k : Nat} (h : k < 4611686018427387904) : IntKind.i64.wrap ((k : Int) + 1) = ((k + 1 : Nat) : Int) := by
  simp [IntKind.wrap, IntKind.bits, IntKind.signed]; omega
theorem u64_len {n : Nat} (h : n ≤ 1000000000) : IntKind.u64.wrap (n : Int) = n := by
  simp [IntKind.wrap, IntKind.bits, IntKind.signed]; omega
/-- The map that lasts turns. -/
theorem FsH.relast {H H' : Hp} {S : Nat → Prop} {p : Nat} {L : FsL} {d : FsD} (h : FsH H S p L d) (dn : DirD) (hh : ∀ j, j ≠ L.ml → H' j = H j) (ht : H' L.ml = some (mapA L.fid dn)) : FsH H' S p L { d with last := dn } := by
  have hr : ∀ j o, (∀ es c, o ≠ AO.map es c) → H j = some o → H' j = some o := fun j o ho e => by
    rw [hh j fun hj => ?_]; exact e
    subst hj
    rw [h.last] at e
    injection e with e
    unfold mapA at e
    exact ho _ _ e.symm
  refine ⟨hr _ _ (fun _ _ e => by cases e) h.top, (hh _ h.ne).trans h.now, ht, h.ne, fun i x hx => ?_, h.finj, h.rinj, h.wait.keep (fun j _ _ e => hr j _ (fun _ _ e => by cases e) e) (fun j cs _ _ e => hr j _ (fun _ _ e => by cases e) e) (fun _ hs => hs), h.Sp, h.Sn, h.Sl, h.Sf⟩
  obtain ⟨bv, h1, h2⟩ := h.file i x hx
  refine ⟨bv, hr _ _ (fun _ _ e => by cases e) h1, ?_⟩
  rcases h2 with h2 | ⟨h2, h3⟩
  · exact .inl h2
  · exact .inr ⟨h2, hr _ _ (fun _ _ e => by cases e) h3⟩
/-- It comes back: the map of now is a new one, nothing waits. -/
theorem FsH.reboot {H H' : Hp} {S : Nat → Prop} {n p : Nat} {L : FsL} {d : FsD} (h : FsH H S p L d) (hS : ∀ j, S j → j < n) (ht : H' p = some (.cells [.lit (.int .i64 d.room), .mp n, .mp L.ml, .lit (.slice none 0 0), .lit (.bool false), .lit (.bool false), .lit (.int .i64 d.left)])) (hn : H' n = some (mapA L.fid d.last)) (hh : ∀ j, j < n → j ≠ p → H' j = H j) :
    FsH H' (fun j => S j ∨ j = n) p { L with mn := n, wv := .lit (.slice none 0 0) } { d with now := d.last, wait := [], off := false, armed := false } := by
  have keep : ∀ j o, S j → H j = some o → (∀ cs, o = .cells cs → cs.length ≠ 7) → H' j = some o := fun j o hs ho h1 => by
    rw [hh j (hS j hs) fun e => ?_]; exact ho
    rw [e, h.top] at ho
    injection ho with ho
    exact h1 _ ho.symm rfl
  refine ⟨ht, hn, keep _ _ h.Sl h.last (fun cs e => by unfold mapA at e; cases e), by have := hS _ h.Sl; show n ≠ L.ml; omega, fun i x hx => ?_, h.finj, h.rinj, .inl ⟨rfl, rfl⟩, .inl h.Sp, .inr rfl, .inl h.Sl, fun i hi => ⟨.inl (h.Sf i hi).1, .inl (h.Sf i hi).2⟩⟩
  obtain ⟨bv, h1, h2⟩ := h.file i x hx
  have hs := h.Sf i (List.getElem?_eq_some_iff.1 hx).1
  refine ⟨bv, keep _ _ hs.1 h1 (fun cs e => by injection e with e; rw [← e]; simp), ?_⟩
  rcases h2 with h2 | ⟨h2, h3⟩
  · exact .inl h2
  · exact .inr ⟨h2, keep _ _ hs.2 h3 (fun cs e => by cases e)⟩
/-- The names that last behind the first k changes. -/
def lastK (d : FsD) (k : Nat) : DirD := (d.wait.take k).foldl (fun s c => c.app s) d.last
theorem lastK_succ {d : FsD} {k : Nat} {c : ChD} (h : d.wait[k]? = some c) : lastK d (k + 1) = c.app (lastK d k) := by
  unfold lastK
  rw [List.take_add_one, h, List.foldl_append]; rfl
theorem lastK_ok {d : FsD} (hok : FsOk d) (k : Nat) : MapOk (lastK d k).1 (lastK d k).2 ∧ ∀ e ∈ (lastK d k).1, e.val < d.files.length ∧ nameB e.key = true := by
  induction k with
  | zero => exact ⟨hok.lastOk, hok.lastI⟩
  | succ k ih =>
    cases h : d.wait[k]? with
    | none =>
      have : lastK d (k + 1) = lastK d k := by unfold lastK; rw [List.take_add_one, h]; simp
      rw [this]; exact ih
    | some c =>
      rw [lastK_succ h]
      exact ⟨app_ok ih.1, app_mem (hok.waitI c (List.mem_of_getElem? h)) ih.2⟩
theorem mem_sortN {l : List ByteArray} {s : ByteArray} (h : s ∈ FsD.sortN l) : s ∈ l := by
  unfold FsD.sortN at h
  obtain ⟨b, hb, rfl⟩ := List.mem_map.1 h
  have := (List.mergeSort_perm _ _).mem_iff.1 hb
  obtain ⟨x, hx, rfl⟩ := List.mem_map.1 this
  have : (⟨x.data.toList.toArray⟩ : ByteArray) = x := by cases x; rfl
  rw [this]; exact hx
theorem cutAll_cons {es : List NmE} {nm : ByteArray} {ns : List ByteArray} {fs : List FileD} {ps : List Int} {i : Nat} {x : FileD} (h : lookE es nm = some i) (hx : fs[i]? = some x) : FsD.cutAll es (nm :: ns) fs ps = if x.b.length = x.last then FsD.cutAll es ns fs ps else FsD.cutAll es ns (fs.set i (FsD.cutFile x (FsD.next ps).1)) (FsD.next ps).2 := by
  rw [FsD.cutAll, h]
  simp only [hx]
theorem FsH.refile0 {H H' : Hp} {S : Nat → Prop} {n p i : Nat} {L : FsL} {d : FsD} {x' : FileD} {bv' : AV} (h : FsH H S p L d) (hS : ∀ j, S j → j < n) (hi : i < d.files.length)
    (hc : H' (L.fid i) = some (.cells [bv', .lit (.int .i64 (x'.last : Int))])) (hbv : BV H' (L.fid i) (L.rid i) bv' x'.b) (hh : ∀ j, S j → j ≠ L.fid i → j ≠ L.rid i → H' j = H j) : FsH H' S p L (d.setFile i x') := by
  have := h.refile (r' := L.rid i) hS hi (.inl rfl) hc hbv hh
  have e1 : (fun j => S j ∨ j = L.rid i) = S := funext fun j => propext ⟨fun h' => h'.elim id (fun e => by rw [e]; exact (h.Sf i hi).2), .inl⟩
  have e2 : (fun k => if k = i then L.rid i else L.rid k) = L.rid := funext fun k => by
    by_cases hk : k = i
    · rw [if_pos hk, hk]
    · rw [if_neg hk]
  rw [e1, e2] at this
  exact this
theorem band1 (pk : Nat) : IntKind.u64.wrap ((BitVec.ofInt IntKind.u64.bits (pk : Int) &&& BitVec.ofInt IntKind.u64.bits 1).toNat : Int) = ((pk % 2 : Nat) : Int) := by
  have e1 : (BitVec.ofInt IntKind.u64.bits (pk : Int)).toNat = pk % 2 ^ 64 := by simp [IntKind.bits, BitVec.toNat_ofInt]
  have e2 : (BitVec.ofInt IntKind.u64.bits 1).toNat = 1 := rfl
  rw [BitVec.toNat_and, e1, e2, Nat.and_one_is_mod]
  have e3 : pk % 2 ^ 64 % 2 = pk % 2 := Nat.mod_mod_of_dvd _ ⟨2 ^ 63, by decide⟩
  rw [e3]
  exact u64_len (by omega)
theorem xor85 (b : UInt8) : IntKind.u8.wrap ((BitVec.ofInt IntKind.u8.bits (b.toNat : Int) ^^^ BitVec.ofInt IntKind.u8.bits 85).toNat : Int) = ((b ^^^ 85).toNat : Int) := by
  have h : ∀ k : Fin 256, IntKind.u8.wrap ((BitVec.ofInt IntKind.u8.bits ((UInt8.ofNat k.val).toNat : Int) ^^^ BitVec.ofInt IntKind.u8.bits 85).toNat : Int) = ((UInt8.ofNat k.val ^^^ 85).toNat : Int) := by decide +kernel
  have := h ⟨b.toNat, b.toNat_lt⟩
  simpa using this
theorem spoil_set {l : List UInt8} {b : UInt8} (h : l[l.length - 1]? = some b) : byL (FsD.spoil l) = (byL l).set (l.length - 1) (byteA (b ^^^ 85)) ∧ (FsD.spoil l).length = l.length := by
  have hl : l.getLast? = some b := by rw [List.getLast?_eq_getElem?]; exact h
  have hne : l ≠ [] := fun e => by subst e; cases hl
  have hsp : FsD.spoil l = l.dropLast ++ [b ^^^ 85] := by unfold FsD.spoil; rw [hl]
  have hl2 : l.dropLast ++ [b] = l := by
    have := List.dropLast_concat_getLast hne
    rw [List.getLast?_eq_some_getLast hne] at hl
    injection hl with hl
    rw [hl] at this; exact this
  rw [hsp]
  have hdl : l.length = l.dropLast.length + 1 := by
    have := congrArg List.length hl2
    rw [List.length_append] at this
    exact this.symm
  refine ⟨?_, by rw [List.length_append]; exact hdl.symm⟩
  have e : byL l = byL l.dropLast ++ [byteA b] := by
    conv => lhs; rw [← hl2]
    unfold byL; rw [List.map_append]; rfl
  rw [e, hdl, Nat.add_sub_cancel]
  unfold byL
  rw [List.map_append, List.set_append_right _ _ (by rw [List.length_map]; exact Nat.le_refl _), List.length_map, Nat.sub_self]
  rfl
/-- The row of names. -/
def P65 (H : Hp) (n n6 : Nat) (NM : List ByteArray) (v : AV) : Prop := (v = .lit (.slice none 0 0) ∧ NM = []) ∨ ∃ g, v = .rw g 1 0 NM.length ∧ n ≤ g ∧ g < n6 ∧ H g = some (.row true 9 (NM.map strI))
/-- The changes that are done. -/
def P30 (H : Hp) (S : Nat → Prop) (L : FsL) (d : FsD) (K : Nat) (p : Nat × AV) : Prop := (p = (30, .sl []) ∧ K = 0) ∨ ∃ r items, p = (30, .rw r 1 0 K) ∧ H r = some (.row false 81 items) ∧ S r ∧ items.length = d.wait.length ∧ ∀ (k : Nat) (it : List AV) (c : ChD), items[k]? = some it → d.wait[k]? = some c → ChIs H L.fid S it c
theorem crash_h {H : Hp} {S : Nat → Prop} {n p : Nat} {L : FsL} {d : FsD} {c : AV} {picks : List Int} (h : FsH H S p L d) (hok : FsOk d) (hS : ∀ j, S j → j < n) (hw : d.wait.length ≤ 1000000) (hc : PicksIs H n c picks) :
    HCalls Tryd.prog 16 [.ptr p 0, c] H n (FsPost H n S p (d.crash picks) (.tup [])) := by
  refine hcallsC_of (rs := []) ⟨[0, 1, 3, 4, 6, 8, 9, 10, 11, 12, 14, 30, 31, 32, 33, 65, 66, 67, 68, 88, 123], [], [], [(3, [(0, [], []), (1, [], []), (2, [], []), (3, [], []), (4, [], []), (6, [], []), (7, [], []), (8, [], []), (9, [], []), (10, [], []), (11, [], []), (12, [], []), (16, [], []), (5, [3, 9, 10, 12], [4]), (13, [], []), (14, [], []), (15, [], [])]), (14, [(0, [], []), (1, [], []), (2, [], []), (3, [], []), (4, [], []), (5, [], []), (6, [], []), (7, [], []), (8, [], []), (9, [], []), (10, [], [9, 0, 1, 2, 3, 4, 5, 6, 7, 8])]), (18, [(0, [], []), (1, [], []), (2, [], []), (3, [], []), (4, [], []), (5, [], []), (6, [], []), (7, [], []), (8, [], []), (9, [], []), (10, [], []), (11, [], []), (12, [], []), (13, [], []), (14, [], []), (15, [], []), (16, [], []), (17, [], [4, 10, 16, 3, 8, 9, 14, 15, 2, 7, 13, 1, 6, 12, 5, 11]), (18, [], []), (19, [], []), (20, [], [19, 17, 0, 1, 2, 3, 4, 5, 6, 7, 8, 9, 10, 11, 12, 13, 14, 15, 16, 18])]), (20, [(0, [], []), (1, [], []), (2, [], []), (3, [], []), (4, [], []), (5, [], []), (6, [], []), (7, [], []), (8, [], []), (9, [], []), (10, [], []), (11, [], []), (12, [], []), (13, [], []), (14, [], [13, 12, 0, 1, 2, 3, 4, 5, 6, 7, 8, 9, 10, 11])])]⟩ TOk mixed Tryd.func16 rfl rfl (by kernel_rfl) (by kernel_rfl) rfl ?_
  have hpn := hS _ h.Sp
  have hcl := hc.cells
  have hone := hc.one
  simp only [AV.cells] at hcl
  simp only [AV.isOne, Value.oneCell'] at hone
  have e0 : (n == p) = false := nb (by omega)
  have hww := wrap_nat0 (k := d.wait.length) (by omega)
  have hwu := u64_len (n := d.wait.length + 1) (by omega)
  have hnz0 : (((d.wait.length + 1 : Nat) : Int) = 0) = False := eq_false (by omega)
  have hpk0 : PicksIs (upd H n (some (.cells [c]))) n c picks := hc.keep fun g its hgn hg => by rw [upd_other (by omega)]; exact hg
  have hold0 : ∀ j, j < n → upd H n (some (.cells [c])) j = H j := fun j hj => upd_other (by omega)
  have hold0' : ∀ j, j ≠ n → upd H n (some (.cells [c])) j = H j := fun j hj => upd_other (fun e => hj e.symm)
  have hpe : p ≠ n := by omega
  refine' meetG (fun meet => _) _
  rotate_left
  · rcases h.wait.symm with ⟨r, items, hwv, hrow, hSr, hlen, hits⟩ | ⟨hwv, hwl⟩
    · obtain ⟨K, hK⟩ : ∃ K, (FsD.next picks).1 % (d.wait.length + 1) = K := ⟨_, rfl⟩
      have hKl : K ≤ d.wait.length := by rw [← hK]; exact Nat.le_of_lt_succ (Nat.mod_lt _ (Nat.succ_pos _))
      have hrem : ((FsD.next picks).1 : Int).tmod ((d.wait.length + 1 : Nat) : Int) = (K : Int) := by rw [← hK]; exact (Int.ofNat_tmod _ _).symm
      have hnz : (((d.wait.length + 1 : Nat) : Int) = 0) = False := hnz0
      have hww' := hww
      have hwu' := hwu
      simp only [Int.natCast_add, Int.natCast_one] at hww' hwu' hrem hnz
      have htop := h.top
      unfold topA at htop
      rw [hwv] at htop
      simp only [push_cast, Nat.reduceBEq, Nat.reduceAdd, Nat.reduceEqDiff, reduceCtorEq, Nat.reduceLeDiff, Nat.reduceSub, Nat.reduceMul, Nat.reduceLT, Int.reduceEq, Int.reduceLT, Int.reduceLE, Int.reduceBEq, Int.reduceBNe, Int.reduceToNat, Int.reduceNeg, Int.reduceSub, Int.reduceAdd, hcl, hone, htop, e0]
      refine callHD (next_h (upd_same _ _ _) hpk0) ?_
      rintro _ H1 _ ⟨rfl, rfl, ⟨c1, hc1, hpk1⟩, hold1'⟩
      have hold1 : ∀ j, j ≠ n → H1 j = upd H n (some (.cells [c])) j := hold1'
      clear hold1'
      have htop1 := (hold1 p hpe).trans ((hold0' p hpe).trans htop)
      have hKi : (K : Int) ≤ (d.wait.length : Int) := Int.ofNat_le.2 hKl
      have hKs : ((K : Int) - 0).toNat = K := by rw [Int.sub_zero]; rfl
      simp only [push_cast, Nat.reduceBEq, Nat.reduceAdd, Nat.reduceEqDiff, reduceCtorEq, Nat.reduceLeDiff, Nat.reduceSub, Nat.reduceMul, Nat.reduceLT, Int.reduceEq, Int.reduceLT, Int.reduceLE, Int.reduceBEq, Int.reduceBNe, Int.reduceToNat, Int.reduceNeg, Int.reduceSub, Int.reduceAdd, htop1, hww', hwu', hnz, hrem, hKi, hKs]
      generalize hp30 : ((30, AV.rw r 1 0 K) : Nat × AV) = p30
      have hP : P30 H S L d K p30 := .inr ⟨r, items, hp30.symm, hrow, hSr, hlen, hits⟩
      clear hp30 htop1 htop hKi hrem hKs
      revert p30
      revert hc1 hpk1 hold1
      revert c1
      revert H1
      revert hK hKl
      revert K
      exact meet
    · have htop := h.top
      unfold topA at htop
      rw [hwv] at htop
      have hw1 : IntKind.i64.wrap 1 = 1 := by decide
      have hw2 : IntKind.u64.wrap 1 = 1 := by decide
      have hr1 : ((FsD.next picks).1 : Int).tmod 1 = 0 := Int.tmod_one _
      simp only [push_cast, Nat.reduceBEq, Nat.reduceAdd, Nat.reduceEqDiff, reduceCtorEq, Nat.reduceLeDiff, Nat.reduceSub, Nat.reduceMul, Nat.reduceLT, Int.reduceEq, Int.reduceLT, Int.reduceLE, Int.reduceBEq, Int.reduceBNe, Int.reduceToNat, Int.reduceNeg, Int.reduceSub, Int.reduceAdd, hcl, hone, htop, e0]
      refine callHD (next_h (upd_same _ _ _) hpk0) ?_
      rintro _ H1 _ ⟨rfl, rfl, ⟨c1, hc1, hpk1⟩, hold1'⟩
      have hold1 : ∀ j, j ≠ n → H1 j = upd H n (some (.cells [c])) j := hold1'
      clear hold1'
      have htop1 := (hold1 p hpe).trans ((hold0' p hpe).trans htop)
      simp only [push_cast, Nat.reduceBEq, Nat.reduceAdd, Nat.reduceEqDiff, reduceCtorEq, Nat.reduceLeDiff, Nat.reduceSub, Nat.reduceMul, Nat.reduceLT, Int.reduceEq, Int.reduceLT, Int.reduceLE, Int.reduceBEq, Int.reduceBNe, Int.reduceToNat, Int.reduceNeg, Int.reduceSub, Int.reduceAdd, htop1, hw1, hw2, hr1, List.not_mem_nil, false_implies]
      generalize hp30 : ((30, AV.sl []) : Nat × AV) = p30
      have hP : P30 H S L d 0 p30 := .inl ⟨hp30.symm, rfl⟩
      exact meet 0 (by rw [hwl]; exact Nat.mod_one _) (Nat.zero_le _) H1 c1 hc1 hpk1 hold1 p30 hP
  · intro K hK hKl H1 c1 hc1 hpk1 hold1 p30 hP
    obtain ⟨v30, rfl⟩ : ∃ v, p30 = (30, v) := by rcases hP with ⟨e, _⟩ | ⟨r, items, e, _⟩ <;> exact ⟨_, e⟩
    have hF1 : FsH H1 S p L d := h.frame fun j hj => (hold1 j (by have := hS j hj; omega)).trans (hold0 j (hS j hj))
    refine loopK (fun m s' => ∃ (j : Nat) (H2 : Hp), s' = ⟨[(0, .ptr p 0), (3, .ptr n 0), (4, .fn 38 [.ptr n 0]), (30, v30), (31, .lit (.int .i64 (K : Int))), (32, .lit (.int .i64 (j : Int)))], H2, n + 1⟩ ∧ m = K - j ∧ j ≤ K ∧ FsH H2 S p L { d with last := lastK d j } ∧ ∀ i, i ≠ L.ml → H2 i = H1 i) _ [0, 3, 4, 30, 31, 32] (by exact ⟨0, H1, rfl, rfl, by omega, hF1, fun _ _ => rfl⟩) ?_
    rintro m _ ⟨j, H2, rfl, rfl, hjK, hF2, hold2⟩
    by_cases hlt : j < K
    · rcases hP with ⟨_, hK0⟩ | ⟨r, items, e30, hrow, hSr, hlen, hits⟩
      · omega
      · obtain rfl : v30 = .rw r 1 0 K := by injection e30
        have hrn := hS r hSr
        have hr1 : H1 r = some (.row false 81 items) := (hold1 r (by omega)).trans ((hold0 r hrn).trans hrow)
        have hr2 : H2 r = some (.row false 81 items) := (hold2 r (fun e => by have := hF1.last; rw [← e, hr1] at this; unfold mapA at this; cases this)).trans hr1
        obtain ⟨ch, hch⟩ : ∃ ch, d.wait[j]? = some ch := ⟨_, List.getElem?_eq_getElem (by omega)⟩
        obtain ⟨it, hit⟩ : ∃ it, items[j]? = some it := ⟨_, List.getElem?_eq_getElem (by omega)⟩
        have hci := hits j it ch hit hch
        obtain ⟨f, caps, rfl⟩ := hci.fn
        have hci2 : ChIs H2 L.fid S [.fn f caps] ch := hci.keep (fun i cs hs hl e => by
          have h1 : H1 i = some (.cells cs) := (hold1 i (by have := hS i hs; omega)).trans ((hold0 i (hS i hs)).trans e)
          exact (hold2 i (fun e' => by have := hF1.last; rw [← e', h1] at this; unfold mapA at this; cases this)).trans h1) (fun _ hs => hs)
        have htop2 := hF2.top
        unfold topA at htop2
        have hji : (j : Int) < (K : Int) := by omega
        have hble : Nat.ble K items.length = true := by rw [Nat.ble_eq]; omega
        have htk : (items.take K)[j]? = some [.fn f caps] := by rw [List.getElem?_take_of_lt hlt]; exact hit
        have hwj := wrap_nat0 (k := j) (by omega)
        simp only [push_cast, Nat.reduceBEq, Nat.reduceAdd, Nat.reduceEqDiff, reduceCtorEq, Nat.reduceLeDiff, Nat.reduceSub, Nat.reduceMul, Nat.reduceLT, Int.reduceEq, Int.reduceLT, Int.reduceLE, Int.reduceBEq, Int.reduceBNe, Int.reduceToNat, Int.reduceNeg, Int.reduceSub, Int.reduceAdd, hji, hr2, hble, htk, htop2]
        refine callH (ch_h hci2 hF2.last) ?_
        rintro _ H3 _ ⟨rfl, rfl, hm3, hold3⟩
        simp only [push_cast, Nat.reduceBEq, Nat.reduceAdd, Nat.reduceEqDiff, reduceCtorEq, Nat.reduceLeDiff, Nat.reduceSub, Nat.reduceMul, Nat.reduceLT, Int.reduceEq, Int.reduceLT, Int.reduceLE, Int.reduceBEq, Int.reduceBNe, Int.reduceToNat, Int.reduceNeg, Int.reduceSub, Int.reduceAdd, hwj]
        refine ⟨_, by omega, j + 1, H3, rfl, rfl, by omega, ?_, fun i hi => (hold3 i hi).trans (hold2 i hi)⟩
        rw [lastK_succ hch]
        exact hF2.relast _ hold3 hm3
    · obtain rfl : j = K := by omega
      have hji : ¬ (j : Int) < (j : Int) := by omega
      have htop2 := hF2.top
      unfold topA at htop2
      simp only [push_cast, Nat.reduceBEq, Nat.reduceAdd, Nat.reduceEqDiff, reduceCtorEq, Nat.reduceLeDiff, Nat.reduceSub, Nat.reduceMul, Nat.reduceLT, Int.reduceEq, Int.reduceLT, Int.reduceLE, Int.reduceBEq, Int.reduceBNe, Int.reduceToNat, Int.reduceNeg, Int.reduceSub, Int.reduceAdd, hji, htop2]
      refine callH (mapsClone_h hF2.last) ?_
      rintro _ _ _ ⟨rfl, rfl, rfl⟩
      have e1 : (n + 1 == p) = false := nb (by omega)
      simp only [push_cast, Nat.reduceBEq, Nat.reduceAdd, Nat.reduceEqDiff, reduceCtorEq, Nat.reduceLeDiff, Nat.reduceSub, Nat.reduceMul, Nat.reduceLT, Int.reduceEq, Int.reduceLT, Int.reduceLE, Int.reduceBEq, Int.reduceBNe, Int.reduceToNat, Int.reduceNeg, Int.reduceSub, Int.reduceAdd, htop2, e1]
      generalize hH4 : upd (upd (upd (upd (upd H2 (n + 1) _) p _) p _) p _) p _ = H4
      have q1 : H4 p = some (.cells [.lit (.int .i64 d.room), .mp (n + 1), .mp L.ml, .lit (.slice none 0 0), .lit (.bool false), .lit (.bool false), .lit (.int .i64 d.left)]) := by rw [← hH4, upd_same]
      have q2 : H4 (n + 1) = some (mapA L.fid (lastK d j)) := by rw [← hH4, upd_other (by omega), upd_other (by omega), upd_other (by omega), upd_other (by omega), upd_same]; rfl
      have q3 : ∀ i, i < n + 1 → i ≠ p → H4 i = H2 i := fun i hi hip => by rw [← hH4, upd_other (fun e => hip e.symm), upd_other (fun e => hip e.symm), upd_other (fun e => hip e.symm), upd_other (fun e => hip e.symm), upd_other (by omega)]
      clear hH4
      have hF4 := hF2.reboot (fun i hi => Nat.lt_succ_of_lt (hS i hi)) q1 q2 q3
      have hmln := hS _ h.Sl
      have hc4 : H4 n = some (.cells [c1]) := (q3 n (by omega) (by omega)).trans ((hold2 n (by omega)).trans hc1)
      have hpk4 : PicksIs H4 n c1 (FsD.next picks).2 := hpk1.keep fun g its hgn hg => by
        have e1 : g ≠ L.ml := fun e => by have := hF1.last; rw [← e, hg] at this; unfold mapA at this; cases this
        have e2 : g ≠ p := fun e => by have := hF1.top; rw [← e, hg] at this; cases this
        exact (q3 g (by omega) e2).trans ((hold2 g e1).trans hg)
      have hfr4 : ∀ i, i < n → ¬ S i → H4 i = H i := fun i hi hs => by
        have e1 : i ≠ L.ml := fun e => hs (by rw [e]; exact h.Sl)
        have e2 : i ≠ p := fun e => hs (by rw [e]; exact h.Sp)
        exact (q3 i (by omega) e2).trans ((hold2 i e1).trans ((hold1 i (by omega)).trans (hold0 i hi)))
      obtain ⟨NM, hNM⟩ : ∃ NM, FsD.sortN ((lastK d j).1.map (·.key)) = NM := ⟨_, rfl⟩
      have hNl : NM.length = (lastK d j).1.length := by rw [← hNM, sortN_len, List.length_map]
      have hfew : (lastK d j).1.length ≤ 400 := hok.few j
      obtain ⟨hmo, hmi⟩ := lastK_ok hok j
      refine' meetG (fun meet => _) _
      rotate_left
      · refine callH keysOf_h ?_
        rintro _ _ _ ⟨rfl, rfl, rfl⟩
        simp only [push_cast, Nat.reduceBEq, Nat.reduceAdd, Nat.reduceEqDiff, reduceCtorEq, Nat.reduceLeDiff, Nat.reduceSub, Nat.reduceMul, Nat.reduceLT, Int.reduceEq, Int.reduceLT, Int.reduceLE, Int.reduceBEq, Int.reduceBNe, Int.reduceToNat, Int.reduceNeg, Int.reduceSub, Int.reduceAdd]
        refine callH (sortedKeys_h (vA := fA L.fid) (mid := n + 1) (bx := n + 1 + 1) ((upd_other (Nat.succ_ne_self (n + 1))).trans q2) (upd_same _ _ _) hmo (fun e he => Nat.le_trans (nameB_size (hmi e he).2) (by decide)) (Nat.le_trans hfew (by decide))) ?_
        rintro r H6 n6 hres
        have hres' : (r = .rw (n + 1 + 1 + 1) 1 0 (lastK d j).1.length ∧ H6 = upd (upd H4 (n + 1 + 1) (some (.cells [.mp (n + 1)]))) (n + 1 + 1 + 1) (some (.row true 9 (NM.map strI))) ∧ n6 = n + 1 + 1 + 1 + 1) ∨ (r = .lit (.slice none 0 0) ∧ (lastK d j).1 = [] ∧ H6 = upd H4 (n + 1 + 1) (some (.cells [.mp (n + 1)])) ∧ n6 = n + 1 + 1 + 1) := by
          rcases hres with h | h
          · exact .inr h
          · exact .inl ⟨h.1, by rw [h.2.1, hNM], h.2.2⟩
        clear hres
        rcases hres' with ⟨rfl, hH6, hn6⟩ | ⟨rfl, hnl, hH6, hn6⟩
        · simp only [push_cast, Nat.reduceBEq, Nat.reduceAdd, Nat.reduceEqDiff, reduceCtorEq, Nat.reduceLeDiff, Nat.reduceSub, Nat.reduceMul, Nat.reduceLT, Int.reduceEq, Int.reduceLT, Int.reduceLE, Int.reduceBEq, Int.reduceBNe, Int.reduceToNat, Int.reduceNeg, Int.reduceSub, Int.reduceAdd]
          rw [← hNl]
          have hP : P65 H6 n n6 NM (.rw (n + 1 + 1 + 1) 1 0 NM.length) := .inr ⟨_, rfl, by rw [Nat.add_assoc, Nat.add_assoc]; exact Nat.le_add_right _ _, by rw [hn6]; exact Nat.lt_succ_self _, by rw [hH6, upd_same]⟩
          have hh6 : ∀ i, i < n + 1 + 1 → H6 i = H4 i := fun i hi => by rw [hH6, upd_other (Ne.symm (Nat.ne_of_lt (Nat.lt_succ_of_lt hi))), upd_other (Ne.symm (Nat.ne_of_lt hi))]
          have hn6' : n + 1 + 1 ≤ n6 := by rw [hn6]; exact Nat.le_trans (Nat.le_succ _) (Nat.le_succ _)
          clear hH6 hn6
          generalize hv65 : AV.rw (n + 1 + 1 + 1) 1 0 NM.length = v65 at hP ⊢
          clear hv65
          revert v65
          revert hn6' hh6
          revert n6
          revert H6
          exact meet
        · simp only [push_cast, Nat.reduceBEq, Nat.reduceAdd, Nat.reduceEqDiff, reduceCtorEq, Nat.reduceLeDiff, Nat.reduceSub, Nat.reduceMul, Nat.reduceLT, Int.reduceEq, Int.reduceLT, Int.reduceLE, Int.reduceBEq, Int.reduceBNe, Int.reduceToNat, Int.reduceNeg, Int.reduceSub, Int.reduceAdd]
          have hN0 : NM = [] := List.eq_nil_of_length_eq_zero (by rw [hNl, hnl]; rfl)
          have hP : P65 H6 n n6 NM (.lit (.slice none 0 0)) := .inl ⟨rfl, hN0⟩
          have hh6 : ∀ i, i < n + 1 + 1 → H6 i = H4 i := fun i hi => by rw [hH6, upd_other (Ne.symm (Nat.ne_of_lt hi))]
          have hn6' : n + 1 + 1 ≤ n6 := by rw [hn6]; exact Nat.le_succ _
          have hl0 : (0 : Int) = (NM.length : Int) := by rw [hN0]; rfl
          generalize hv66 : ((66, AV.lit (.int .i64 0)) : Nat × AV) = p66
          rw [hl0] at hv66
          subst hv66
          exact meet H6 n6 hh6 hn6' _ hP
      · intro H6 n6 hh6 hn6 v65 hP65
        have hSn1 : ∀ i, (S i ∨ i = n + 1) → i < n + 2 := fun i hi => by rcases hi with hi | hi; (have := hS i hi; omega); omega
        have hF6 : FsH H6 (fun i => S i ∨ i = n + 1) p { L with mn := n + 1, wv := .lit (.slice none 0 0) } { d with now := lastK d j, last := lastK d j, wait := [], off := false, armed := false } := hF4.frame fun i hi => hh6 i (hSn1 i hi)
        have hc6 : H6 n = some (.cells [c1]) := (hh6 n (by omega)).trans hc4
        have hpk6 : PicksIs H6 n c1 (FsD.next picks).2 := hpk4.keep fun g its hgn hg => (hh6 g (by omega)).trans hg
        have hfr6 : ∀ i, i < n → ¬ S i → H6 i = H i := fun i hi hs => (hh6 i (by omega)).trans (hfr4 i hi hs)
        refine loopK (fun m s' => ∃ (z : Nat) (H7 : Hp) (fs : List FileD) (rest : List Int) (c7 : AV), s' = ⟨[(0, .ptr p 0), (3, .ptr n 0), (4, .fn 38 [.ptr n 0]), (65, v65), (66, .lit (.int .i64 (NM.length : Int))), (67, .lit (.int .i64 (z : Int)))], H7, n6⟩ ∧ m = NM.length - z ∧ z ≤ NM.length ∧
          FsH H7 (fun i => S i ∨ i = n + 1) p { L with mn := n + 1, wv := .lit (.slice none 0 0) } { d with files := fs, now := lastK d j, last := lastK d j, wait := [], off := false, armed := false } ∧ H7 n = some (.cells [c7]) ∧ PicksIs H7 n c7 rest ∧ FsD.cutAll (lastK d j).1 (NM.drop z) fs rest = FsD.cutAll (lastK d j).1 NM d.files (FsD.next picks).2 ∧
          (∀ (i : Nat) (x : FileD), fs[i]? = some x → x.b.length ≤ 1048576 ∧ x.last ≤ x.b.length) ∧ fs.length = d.files.length ∧ (∀ i, i < n → ¬ S i → H7 i = H i) ∧ P65 H7 n n6 NM v65) _ [0, 3, 4, 65, 66, 67] (by exact ⟨0, H6, d.files, (FsD.next picks).2, c1, rfl, rfl, Nat.zero_le _, hF6, hc6, hpk6, rfl, hok.len, rfl, hfr6, hP65⟩) ?_
        rintro m _ ⟨z, H7, fs, rest, c7, rfl, rfl, hz, hF7, hc7, hpk7, hcut, hlens, hfl, hfr7, hP7⟩
        by_cases hlt : z < NM.length
        · obtain ⟨nm, hnm⟩ : ∃ nm, NM[z]? = some nm := ⟨_, List.getElem?_eq_getElem hlt⟩
          obtain ⟨e0', he0, he0k⟩ : ∃ e ∈ (lastK d j).1, e.key = nm := by
            have := List.mem_of_getElem? hnm
            rw [← hNM] at this
            obtain ⟨e, he, hk⟩ := List.mem_map.1 (mem_sortN this)
            exact ⟨e, he, hk⟩
          have hlk : lookE (lastK d j).1 nm = some e0'.val := by rw [← he0k]; exact mem_lookE hmo.keys he0
          have hi : e0'.val < fs.length := by rw [hfl]; exact (hmi e0' he0).1
          generalize e0'.val = i at hlk hi
          obtain ⟨x, hx⟩ : ∃ x, fs[i]? = some x := ⟨_, List.getElem?_eq_getElem hi⟩
          obtain ⟨hx1, hx2⟩ := hlens i x hx
          obtain ⟨bv, hb1, hb2⟩ := hF7.file i x hx
          have hdr : NM.drop z = nm :: NM.drop (z + 1) := by
            obtain ⟨hk', hx'⟩ := List.getElem?_eq_some_iff.1 hnm
            rw [← hx', List.drop_eq_getElem_cons hk']
          have hcut1 : FsD.cutAll (lastK d j).1 (NM.drop z) fs rest = if x.b.length = x.last then FsD.cutAll (lastK d j).1 (NM.drop (z + 1)) fs rest else FsD.cutAll (lastK d j).1 (NM.drop (z + 1)) (fs.set i (FsD.cutFile x (FsD.next rest).1)) (FsD.next rest).2 := by
            rw [hdr]; exact cutAll_cons hlk hx
          obtain ⟨jj, xx, _, _, _, _, hmf⟩ := mfind_yes (vA := fA L.fid) keyOk_strA hlk
          simp only [strA, fA] at hmf
          have htop7 := hF7.top
          unfold topA at htop7
          have hnow7 := hF7.now
          unfold mapA at hnow7
          have hzi : (z : Int) < (NM.length : Int) := by omega
          have hwz := wrap_nat0 (k := z) (by omega)
          rcases hP7 with ⟨_, hN0⟩ | ⟨g, rfl, hg1, hg2, hgrow⟩
          · rw [hN0] at hlt; exact absurd hlt (Nat.not_lt_zero _)
          · rcases hb2 with ⟨rfl, hl0, _⟩ | ⟨rfl, hrow⟩
            · have hla : x.last = 0 := by rw [hl0] at hx2; simpa using hx2
              have hb1' := hb1
              rw [hla] at hb1'
              have heq : x.b.length = x.last := by rw [hl0, hla]; rfl
              rw [if_pos heq] at hcut1
              have hw0 : IntKind.i64.wrap 0 = 0 := by decide
              have hgz : (NM.map strI)[z]? = some [.lit (.string nm)] := by rw [List.getElem?_map, hnm]; rfl
              simp only [push_cast, Nat.reduceBEq, Nat.reduceAdd, Nat.reduceEqDiff, reduceCtorEq, Nat.reduceLeDiff, Nat.reduceSub, Nat.reduceMul, Nat.reduceLT, Int.reduceEq, Int.reduceLT, Int.reduceLE, Int.reduceBEq, Int.reduceBNe, Int.reduceToNat, Int.reduceNeg, Int.reduceSub, Int.reduceAdd, hzi, hgrow, hnm, strI, htop7, hnow7, hmf, hb1', hw0, hwz]
              exact ⟨_, by omega, z + 1, H7, fs, rest, c7, rfl, rfl, by omega, hF7, hc7, hpk7, hcut1.symm.trans hcut, hlens, hfl, hfr7, .inr ⟨g, rfl, hg1, hg2, hgrow⟩⟩
            · obtain ⟨ln, hln⟩ : ∃ ln, x.b.length = ln := ⟨_, rfl⟩
              obtain ⟨la, hla⟩ : ∃ la, x.last = la := ⟨_, rfl⟩
              obtain ⟨u, hu⟩ : ∃ u, ln - la = u := ⟨_, rfl⟩
              have hw1 : IntKind.i64.wrap ((ln : Int) - (la : Int)) = (u : Int) := by rw [IntWalk.i64_in _ (by omega)]; omega
              rw [hln, hla] at hcut1
              by_cases heq : ln = la
              · rw [if_pos heq] at hcut1
                obtain rfl : u = 0 := by omega
                simp only [Int.natCast_zero] at hw1
                simp only [push_cast, Nat.reduceBEq, Nat.reduceAdd, Nat.reduceEqDiff, reduceCtorEq, Nat.reduceLeDiff, Nat.reduceSub, Nat.reduceMul, Nat.reduceLT, Int.reduceEq, Int.reduceLT, Int.reduceLE, Int.reduceBEq, Int.reduceBNe, Int.reduceToNat, Int.reduceNeg, Int.reduceSub, Int.reduceAdd, hzi, hgrow, hnm, strI, htop7, hnow7, hmf, hb1, hln, hla, hw1, hwz]
                exact ⟨_, by omega, z + 1, H7, fs, rest, c7, rfl, rfl, by omega, hF7, hc7, hpk7, hcut1.symm.trans hcut, hlens, hfl, hfr7, .inr ⟨g, rfl, hg1, hg2, hgrow⟩⟩
              · rw [if_neg heq] at hcut1
                have hu0 : ((u : Int) == 0) = false := by rw [beq_eq_false_iff_ne]; omega
                simp only [push_cast, Nat.reduceBEq, Nat.reduceAdd, Nat.reduceEqDiff, reduceCtorEq, Nat.reduceLeDiff, Nat.reduceSub, Nat.reduceMul, Nat.reduceLT, Int.reduceEq, Int.reduceLT, Int.reduceLE, Int.reduceBEq, Int.reduceBNe, Int.reduceToNat, Int.reduceNeg, Int.reduceSub, Int.reduceAdd, hzi, hgrow, hnm, strI, htop7, hnow7, hmf, hb1, hln, hla, hw1, hu0]
                refine callH (next_h hc7 hpk7) ?_
                rintro _ H8 _ ⟨rfl, rfl, ⟨c8, hc8, hpk8⟩, hold8⟩
                obtain ⟨pk, hpk⟩ : ∃ pk, (FsD.next rest).1 = pk := ⟨_, rfl⟩
                obtain ⟨mm, hmm⟩ : ∃ mm, pk % (u + 1) = mm := ⟨_, rfl⟩
                have hml : mm ≤ u := by have := Nat.mod_lt pk (show 0 < u + 1 by omega); omega
                have hwu1 := wrap_nat0 (k := u) (by omega)
                have hwu2 := u64_len (n := u + 1) (by omega)
                have hrem : (pk : Int).tmod ((u + 1 : Nat) : Int) = (mm : Int) := by rw [← hmm]; exact (Int.ofNat_tmod _ _).symm
                have hnz : (((u + 1 : Nat) : Int) = 0) = False := eq_false (by omega)
                simp only [Int.natCast_add, Int.natCast_one] at hwu1 hwu2 hrem hnz
                have hwm : IntKind.i64.wrap (mm : Int) = (mm : Int) := IntWalk.i64_in _ (by omega)
                have hwlm : IntKind.i64.wrap ((la : Int) + (mm : Int)) = ((la + mm : Nat) : Int) := by rw [IntWalk.i64_in _ (by omega)]; omega
                have hfn : L.fid i ≠ n := fun e => by have := hS _ (h.Sf i (by omega)).1; omega
                have hrn : L.rid i ≠ n := fun e => by have := hS _ (h.Sf i (by omega)).2; omega
                have hb8 := (hold8 _ hfn).trans hb1
                have hr8 := (hold8 _ hrn).trans hrow
                rw [hla] at hb8
                have hfr : (L.rid i == L.fid i) = false := nb (fun e => by rw [e, hb1] at hrow; cases hrow)
                have hfr2 : (L.fid i == L.rid i) = false := nb (fun e => by rw [← e, hb1] at hrow; cases hrow)
                have hc3 : la + mm ≤ ln := by omega
                have htn : ((la + mm : Nat) : Int).toNat = la + mm := Int.toNat_natCast _
                have hbylen : (byL x.b).length = ln := by rw [byL_len, hln]
                simp only [Int.natCast_add] at hwlm htn
                have hc3i : (la : Int) + (mm : Int) ≤ (ln : Int) := by omega
                have hc30 : 0 ≤ (la : Int) + (mm : Int) := by omega
                have hF8 : FsH H8 (fun i => S i ∨ i = n + 1) p { L with mn := n + 1, wv := .lit (.slice none 0 0) } { d with files := fs, now := lastK d j, last := lastK d j, wait := [], off := false, armed := false } := hF7.frame fun k hk => hold8 k (by rcases hk with hk | hk; (have := hS k hk; omega); omega)
                have hgn8 : H8 g = some (.row true 9 (NM.map strI)) := (hold8 g (fun e => by rw [e, hc7] at hgrow; cases hgrow)).trans hgrow
                have hgf : g ≠ L.fid i := fun e => by rw [e, hb1] at hgrow; cases hgrow
                have hgr : g ≠ L.rid i := fun e => by rw [e, hrow] at hgrow; injection hgrow with hgrow; injection hgrow with _ h2 _; exact absurd h2 (by decide)
                rw [hpk] at hcut1
                have hcf : FsD.cutFile x pk = if pk % 2 = 1 ∧ 0 < mm then ⟨FsD.spoil (x.b.take (la + mm)), (FsD.spoil (x.b.take (la + mm))).length⟩ else ⟨x.b.take (la + mm), (x.b.take (la + mm)).length⟩ := by
                  unfold FsD.cutFile
                  rw [hln, hla, hu, hmm]
                  by_cases hq : pk % 2 = 1 ∧ 0 < mm
                  · simp only [if_pos hq]
                  · simp only [if_neg hq]
                have htl : (x.b.take (la + mm)).length = la + mm := by rw [List.length_take]; omega
                have htb : List.take (la + mm) (byL x.b) = byL (x.b.take (la + mm)) := List.map_take.symm
                have hNi : ∀ k, (S k ∨ k = n + 1) → k ≠ n := fun k hk => by rcases hk with hk | hk; (have := hS k hk; omega); omega
                have fin : ∀ (x' : FileD) (H9 : Hp), FsD.cutFile x pk = x' → x'.b.length = la + mm → x'.last = la + mm → H9 (L.fid i) = some (.cells [.rw (L.rid i) 1 0 (la + mm), .lit (.int .i64 ((la : Int) + (mm : Int)))]) → H9 (L.rid i) = some (.row true 5 (byL x'.b)) → (∀ k, k ≠ L.fid i → k ≠ L.rid i → H9 k = H8 k) →
                    ∃ m, m < NM.length - z ∧ ∃ (z' : Nat) (H7 : Hp) (fs : List FileD) (rest : List Int) (c7 : AV), (⟨[(0, .ptr p 0), (3, .ptr n 0), (4, .fn 38 [.ptr n 0]), (65, .rw g 1 0 NM.length), (66, .lit (.int .i64 (NM.length : Int))), (67, .lit (.int .i64 ((z : Int) + 1)))], H9, n6⟩ : AS) = ⟨[(0, .ptr p 0), (3, .ptr n 0), (4, .fn 38 [.ptr n 0]), (65, .rw g 1 0 NM.length), (66, .lit (.int .i64 (NM.length : Int))), (67, .lit (.int .i64 (z' : Int)))], H7, n6⟩ ∧ m = NM.length - z' ∧ z' ≤ NM.length ∧
                      FsH H7 (fun i => S i ∨ i = n + 1) p { L with mn := n + 1, wv := .lit (.slice none 0 0) } { d with files := fs, now := lastK d j, last := lastK d j, wait := [], off := false, armed := false } ∧ H7 n = some (.cells [c7]) ∧ PicksIs H7 n c7 rest ∧ FsD.cutAll (lastK d j).1 (NM.drop z') fs rest = FsD.cutAll (lastK d j).1 NM d.files (FsD.next picks).2 ∧
                      (∀ (i : Nat) (x : FileD), fs[i]? = some x → x.b.length ≤ 1048576 ∧ x.last ≤ x.b.length) ∧ fs.length = d.files.length ∧ (∀ i, i < n → ¬ S i → H7 i = H i) ∧ P65 H7 n n6 NM (.rw g 1 0 NM.length) := by
                  intro x' H9 hx' hxl hxa h91 h92 h93
                  rw [hx'] at hcut1
                  have hF9 := hF8.refile0 (H' := H9) (n := n + 2) (i := i) (x' := x') (bv' := .rw (L.rid i) 1 0 (la + mm)) hSn1 hi (by rw [hxa]; exact h91) (.inr ⟨by rw [hxl], h92⟩) (fun k _ a1 a2 => h93 k a1 a2)
                  refine ⟨_, ?_, z + 1, H9, fs.set i x', (FsD.next rest).2, c8, rfl, rfl, by omega, hF9, (h93 n (fun e => hfn e.symm) (fun e => hrn e.symm)).trans hc8, hpk8.keep fun k its hkn hk => (h93 k (fun e => by rw [e, hb8] at hk; cases hk) (fun e => by rw [e, hr8] at hk; cases hk)).trans hk, hcut1.symm.trans hcut, fun k y hy => ?_, by rw [List.length_set]; exact hfl, fun k hk hs => ?_, .inr ⟨g, rfl, hg1, hg2, (h93 g hgf hgr).trans hgn8⟩⟩
                  · omega
                  · rcases List.mem_or_eq_of_mem_set (List.mem_of_getElem? hy) with hm' | hm'
                    · obtain ⟨k', hk'⟩ := List.mem_iff_getElem?.1 hm'
                      exact hlens k' y hk'
                    · subst hm'
                      omega
                  · have a1 : k ≠ L.fid i := fun e => hs (by rw [e]; exact (h.Sf i (by omega)).1)
                    have a2 : k ≠ L.rid i := fun e => hs (by rw [e]; exact (h.Sf i (by omega)).2)
                    exact (h93 k a1 a2).trans ((hold8 k (by omega)).trans (hfr7 k hk hs))
                have hba := band1 pk
                by_cases hsp : pk % 2 = 1 ∧ 0 < mm
                · rw [hsp.1] at hba
                  have hmp : (mm : Int) > 0 := by omega
                  rw [if_pos hsp] at hcf
                  obtain ⟨b0, hb0⟩ : ∃ b0, (x.b.take (la + mm))[la + mm - 1]? = some b0 := ⟨_, List.getElem?_eq_getElem (by rw [htl]; omega)⟩
                  obtain ⟨hs1, hs2⟩ := spoil_set (l := x.b.take (la + mm)) (b := b0) (by rw [htl]; exact hb0)
                  rw [htl] at hs1 hs2
                  have hk1 : IntKind.i64.wrap ((la : Int) + (mm : Int) - 1) = (la : Int) + (mm : Int) - 1 := IntWalk.i64_in _ (by omega)
                  have hk2 : ((la : Int) + (mm : Int) - 1).toNat = la + mm - 1 := by omega
                  have hk3 : 0 ≤ (la : Int) + (mm : Int) - 1 := by omega
                  have hk4 : (la : Int) + (mm : Int) - 1 < (la : Int) + (mm : Int) := by omega
                  have hidx : (byL (x.b.take (la + mm)))[la + mm - 1]? = some [.lit (.int .u8 b0.toNat)] := by unfold byL; rw [List.getElem?_map, hb0]; rfl
                  have hxo := xor85 b0
                  simp only [Int.natCast_one] at hba
                  simp only [push_cast, Nat.reduceBEq, Nat.reduceAdd, Nat.reduceEqDiff, reduceCtorEq, Nat.reduceLeDiff, Nat.reduceSub, Nat.reduceMul, Nat.reduceLT, Int.reduceEq, Int.reduceLT, Int.reduceLE, Int.reduceBEq, Int.reduceBNe, Int.reduceToNat, Int.reduceNeg, Int.reduceSub, Int.reduceAdd, hpk, hwu1, hwu2, hnz, hrem, hwm, hwlm, hb8, hr8, hln, hc3, hc3i, hc30, htn, hbylen, hfr, hfr2, htb, hba, hmp, hk1, hk2, hk3, hk4, hidx, hxo, hwz]
                  exact fin _ _ hcf hs2 hs2 (upd_same _ _ _) (by rw [upd_other (fun e => by rw [e] at hfr2; simp at hfr2), upd_same, hs1]; rfl) (fun k a1 a2 => by rw [upd_other (fun e => a1 e.symm), upd_other (fun e => a2 e.symm), upd_other (fun e => a1 e.symm), upd_other (fun e => a2 e.symm)])
                · rw [if_neg hsp] at hcf
                  by_cases hodd : pk % 2 = 1
                  · rw [hodd] at hba
                    have hmp : ¬ (mm : Int) > 0 := by omega
                    simp only [Int.natCast_one] at hba
                    simp only [push_cast, Nat.reduceBEq, Nat.reduceAdd, Nat.reduceEqDiff, reduceCtorEq, Nat.reduceLeDiff, Nat.reduceSub, Nat.reduceMul, Nat.reduceLT, Int.reduceEq, Int.reduceLT, Int.reduceLE, Int.reduceBEq, Int.reduceBNe, Int.reduceToNat, Int.reduceNeg, Int.reduceSub, Int.reduceAdd, hpk, hwu1, hwu2, hnz, hrem, hwm, hwlm, hb8, hr8, hln, hc3, hc3i, hc30, htn, hbylen, hfr, hfr2, htb, hba, hmp, hwz]
                    exact fin _ _ hcf htl htl (upd_same _ _ _) (by rw [upd_other (fun e => by rw [e] at hfr2; simp at hfr2), upd_other (fun e => by rw [e] at hfr2; simp at hfr2), upd_same]) (fun k a1 a2 => by rw [upd_other (fun e => a1 e.symm), upd_other (fun e => a1 e.symm), upd_other (fun e => a2 e.symm)])
                  · obtain he : pk % 2 = 0 := by omega
                    rw [he] at hba
                    simp only [Int.natCast_zero] at hba
                    simp only [push_cast, Nat.reduceBEq, Nat.reduceAdd, Nat.reduceEqDiff, reduceCtorEq, Nat.reduceLeDiff, Nat.reduceSub, Nat.reduceMul, Nat.reduceLT, Int.reduceEq, Int.reduceLT, Int.reduceLE, Int.reduceBEq, Int.reduceBNe, Int.reduceToNat, Int.reduceNeg, Int.reduceSub, Int.reduceAdd, hpk, hwu1, hwu2, hnz, hrem, hwm, hwlm, hb8, hr8, hln, hc3, hc3i, hc30, htn, hbylen, hfr, hfr2, htb, hba, hwz]
                    exact fin _ _ hcf htl htl (upd_same _ _ _) (by rw [upd_other (fun e => by rw [e] at hfr2; simp at hfr2), upd_other (fun e => by rw [e] at hfr2; simp at hfr2), upd_same]) (fun k a1 a2 => by rw [upd_other (fun e => a1 e.symm), upd_other (fun e => a1 e.symm), upd_other (fun e => a2 e.symm)])
        · have hzi : ¬ (z : Int) < (NM.length : Int) := by omega
          obtain rfl : z = NM.length := by omega
          simp only [push_cast, Nat.reduceBEq, Nat.reduceAdd, Nat.reduceEqDiff, reduceCtorEq, Nat.reduceLeDiff, Nat.reduceSub, Nat.reduceMul, Nat.reduceLT, Int.reduceEq, Int.reduceLT, Int.reduceLE, Int.reduceBEq, Int.reduceBNe, Int.reduceToNat, Int.reduceNeg, Int.reduceSub, Int.reduceAdd, hzi]
          rw [List.drop_length] at hcut
          have hfin : d.crash picks = { d with files := fs, now := lastK d j, last := lastK d j, wait := [], off := false, armed := false } := by
            unfold FsD.crash
            rw [hK]
            show ({ d with files := FsD.cutAll (lastK d j).1 (FsD.sortN ((lastK d j).1.map (·.key))) d.files (FsD.next picks).2, now := lastK d j, last := lastK d j, wait := [], off := false, armed := false } : FsD) = _
            rw [hNM, ← hcut]; rfl
          rw [hfin]
          exact ⟨rfl, _, _, hF7, by omega, fun i hi => by rcases hi with hi | hi; (have := hS i hi; omega); omega, fun i hi => by rcases hi with hi | hi; exact .inl hi; exact .inr (by omega), hfr7⟩
end Go.Proofs.YtjmafbdakalknaaDoor
