/- Chapter 7's statement FsKeeps: the plain law, no program in sight. -/
import Derived.Test.YtjmafbdakalknaaDoorFsRoomP
import Derived.Test.YtjmafbdakalknaaDoorFsRenP
set_option linter.unusedVariables false
namespace Go.Proofs.YtjmafbdakalknaaDoor
open Go Go.RowKit Hv
def kpN : Nat → ByteArray
  | 0 => ⟨#[107, 101, 101, 112, 45, 48]⟩
  | 1 => ⟨#[107, 101, 101, 112, 45, 49]⟩
  | 2 => ⟨#[107, 101, 101, 112, 45, 50]⟩
  | 3 => ⟨#[107, 101, 101, 112, 45, 51]⟩
  | _ => ⟨#[107, 101, 101, 112, 45, 52]⟩
theorem five {k : Nat} (h : k < 5) : k = 0 ∨ k = 1 ∨ k = 2 ∨ k = 3 ∨ k = 4 := by omega
theorem kp0 : nameB (kpN 0) = true := by kernel_rfl
theorem kp1 : nameB (kpN 1) = true := by kernel_rfl
theorem kp2 : nameB (kpN 2) = true := by kernel_rfl
theorem kp3 : nameB (kpN 3) = true := by kernel_rfl
theorem kp4 : nameB (kpN 4) = true := by kernel_rfl
theorem kpN_name (k : Nat) : nameB (kpN k) = true := by
  match k with
  | 0 => exact kp0
  | 1 => exact kp1
  | 2 => exact kp2
  | 3 => exact kp3
  | _ + 4 => exact kp4
theorem kpN_inj {j k : Nat} (hj : j < 5) (hk : k < 5) (h : kpN j = kpN k) : j = k := by
  rcases five hj with rfl | rfl | rfl | rfl | rfl <;> rcases five hk with rfl | rfl | rfl | rfl | rfl <;> first | rfl | exact absurd h (of_decide_eq_true rfl)
def newS : ByteArray := ⟨#[110, 101, 119, 45]⟩
theorem kpN_head (k : Nat) : (kpN k).data.toList.head? = some 107 := by
  match k with
  | 0 => rfl
  | 1 => rfl
  | 2 => rfl
  | 3 => rfl
  | _ + 4 => rfl
theorem newS_ne (L : ByteArray) (k : Nat) : newS ++ L ≠ kpN k := by
  intro h
  have h1 := kpN_head k
  rw [← h] at h1
  have e : (newS ++ L).data.toList = newS.data.toList ++ L.data.toList := by rw [ByteArray.data_append, Array.toList_append]
  rw [e] at h1
  have h2 : (some 110 : Option UInt8) = some 107 := h1
  injection h2 with h2
  exact absurd h2 (by decide)
/-- A change that does not touch the name. -/
def ChD.free (s : ByteArray) : ChD → Prop
  | .new n _ => n ≠ s
  | .ren a b _ => a ≠ s ∧ b ≠ s
  | .rem n => n ≠ s
theorem look_app {c : ChD} {s : ByteArray} {dd : DirD} (hk : (dd.1.map (·.key)).Nodup) (h : c.free s) : lookE (c.app dd).1 s = lookE dd.1 s := by
  cases c with
  | new n i =>
    show lookE (putE dd.1 dd.2 n i).1 s = _
    rw [lookE_put, if_neg (Ne.symm h)]
  | ren a b i =>
    show lookE (putE (delE dd.1 a) dd.2 b i).1 s = _
    rw [lookE_put, lookE_del hk, if_neg (Ne.symm h.2), if_neg (Ne.symm h.1)]
  | rem n =>
    show lookE (delE dd.1 n) s = _
    rw [lookE_del hk, if_neg (Ne.symm h)]
theorem look_fold {s : ByteArray} : ∀ (l : List ChD) (dd : DirD), MapOk dd.1 dd.2 → (∀ c ∈ l, c.free s) → lookE (l.foldl (fun s c => c.app s) dd).1 s = lookE dd.1 s
  | [], _, _, _ => rfl
  | c :: l, dd, hk, h => by
    rw [List.foldl_cons, look_fold l (c.app dd) (app_ok hk) (fun c' hc' => h c' (List.mem_cons_of_mem _ hc')), look_app hk.keys (h c List.mem_cons_self)]
/-- Of a file these bytes are sure. -/
def Sure (s : List UInt8) (x : FileD) : Prop := s.length ≤ x.last ∧ x.last ≤ x.b.length ∧ x.b.take s.length = s
theorem Sure.app {s b : List UInt8} {x : FileD} (h : Sure s x) : Sure s ⟨x.b ++ b, x.last⟩ := by
  refine ⟨h.1, Nat.le_trans h.2.1 (by show _ ≤ (x.b ++ b).length; rw [List.length_append]; omega), ?_⟩
  show (x.b ++ b).take s.length = s
  rw [List.take_append_of_le_length (Nat.le_trans h.1 h.2.1)]; exact h.2.2
theorem Sure.sync {s : List UInt8} {x : FileD} (h : Sure s x) : Sure s ⟨x.b, x.b.length⟩ := ⟨Nat.le_trans h.1 h.2.1, Nat.le_refl _, h.2.2⟩
theorem spoil_pre (l : List UInt8) {k : Nat} (hk : k ≤ l.length - 1) : (FsD.spoil l).take k = l.take k := by
  unfold FsD.spoil
  split
  · rename_i b h
    rw [List.take_append_of_le_length (by rw [List.length_dropLast]; exact hk), List.dropLast_eq_take, List.take_take, Nat.min_eq_left hk]
  · rfl
theorem Sure.cut {s : List UInt8} {x : FileD} (h : Sure s x) (p : Nat) : Sure s (FsD.cutFile x p) := by
  obtain ⟨h1, h2, h3⟩ := h
  have hl := cutFile_len x p h2
  have hm : p % (x.b.length - x.last + 1) < x.b.length - x.last + 1 := Nat.mod_lt _ (Nat.succ_pos _)
  refine ⟨by rw [cutFile_last, hl]; omega, Nat.le_of_eq (cutFile_last x p), ?_⟩
  show (if p % 2 = 1 ∧ 0 < p % (x.b.length - x.last + 1) then FsD.spoil (x.b.take (x.last + p % (x.b.length - x.last + 1))) else x.b.take (x.last + p % (x.b.length - x.last + 1))).take s.length = s
  split
  · rename_i hc
    rw [spoil_pre _ (by rw [List.length_take]; omega), List.take_take, Nat.min_eq_left (by omega)]; exact h3
  · rw [List.take_take, Nat.min_eq_left (by omega)]; exact h3
structure KeepF (n : Nat) (sure : Nat → List UInt8) (d : FsD) : Prop where
  now : ∀ k, k < n → lookE d.now.1 (kpN k) = some k
  last : ∀ k, k < n → lookE d.last.1 (kpN k) = some k
  wait : ∀ c ∈ d.wait, ∀ k, k < n → c.free (kpN k)
  file : ∀ k, k < n → ∃ x, d.files[k]? = some x ∧ Sure (sure k) x
section
variable {n : Nat} {sure : Nat → List UInt8} {d : FsD}
theorem KeepF.congr (h : KeepF n sure d) {d' : FsD} (h1 : d'.now = d.now) (h2 : d'.last = d.last) (h3 : d'.wait = d.wait) (h4 : d'.files = d.files) : KeepF n sure d' :=
  ⟨by rw [h1]; exact h.now, by rw [h2]; exact h.last, by rw [h3]; exact h.wait, by rw [h4]; exact h.file⟩
theorem KeepF.chg (h : KeepF n sure d) : KeepF n sure d.chg.1 := by
  obtain ⟨_, h1, h2, h3, h4⟩ := chg_same d
  exact h.congr h2 h3 h4 h1
theorem KeepF.doit (h : KeepF n sure d) (hok : FsOk d) {c : ChD} (hc : ∀ k, k < n → c.free (kpN k)) : KeepF n sure (d.doit c) := by
  refine ⟨fun k hk => ?_, h.last, fun c' hc' k hk => ?_, h.file⟩
  · show lookE (c.app d.now).1 (kpN k) = _
    rw [look_app hok.nowOk.keys (hc k hk)]; exact h.now k hk
  · rcases List.mem_append.1 hc' with hc' | hc'
    · exact h.wait c' hc' k hk
    · rw [List.mem_singleton] at hc'; subst hc'; exact hc k hk
theorem KeepF.addFile (h : KeepF n sure d) : KeepF n sure { d with files := d.files ++ [⟨[], 0⟩] } := by
  refine ⟨h.now, h.last, h.wait, fun k hk => ?_⟩
  obtain ⟨x, hx, hs⟩ := h.file k hk
  exact ⟨x, by show (d.files ++ _)[k]? = _; rw [List.getElem?_append_left (List.getElem?_eq_some_iff.1 hx).1]; exact hx, hs⟩
theorem KeepF.setFile (h : KeepF n sure d) {i : Nat} {y : FileD} (hy : ∀ k, k < n → k = i → ∀ x, d.files[k]? = some x → Sure (sure k) x → Sure (sure k) y) : KeepF n sure (d.setFile i y) := by
  refine ⟨h.now, h.last, h.wait, fun k hk => ?_⟩
  obtain ⟨x, hx, hs⟩ := h.file k hk
  show ∃ z, (d.files.set i y)[k]? = some z ∧ _
  by_cases hki : i = k
  · subst hki
    exact ⟨y, by rw [List.getElem?_set_self (List.getElem?_eq_some_iff.1 hx).1], hy i hk rfl x hx hs⟩
  · exact ⟨x, by rw [List.getElem?_set_ne hki]; exact hx, hs⟩
theorem KeepF.create (h : KeepF n sure d) (hok : FsOk d) {s : ByteArray} (hs : ∀ k, k < n → s ≠ kpN k) : KeepF n sure (d.create s).1 := by
  unfold FsD.create
  split
  · exact h
  · split
    · exact h
    · split
      · exact h
      · split
        · exact h.chg
        · exact h.chg.addFile.doit (addFile_ok (chg_ok hok)) fun k hk => hs k hk
theorem file_is {i : Nat} {x : FileD} (hx : d.files[i]? = some x) : d.file i = x := by unfold FsD.file; rw [hx]; rfl
theorem KeepF.append (h : KeepF n sure d) (s : ByteArray) (b : List UInt8) : KeepF n sure (d.append s b).1 := by
  unfold FsD.append
  split
  · rename_i i _
    split
    · exact h
    · split
      · exact h
      · split
        · exact h.chg
        · refine h.chg.setFile fun k hk hki x hx hs => ?_
          rw [(chg_same d).2.1] at hx
          subst hki
          rw [file_is hx]; exact hs.app
  · exact h
theorem KeepF.sync (h : KeepF n sure d) (s : ByteArray) : KeepF n sure (d.sync s).1 := by
  unfold FsD.sync
  split
  · rename_i i _
    split
    · exact h.chg
    · refine h.chg.setFile fun k hk hki x hx hs => ?_
      rw [(chg_same d).2.1] at hx
      subst hki
      rw [file_is hx]; exact hs.sync
  · exact h
theorem KeepF.rename (h : KeepF n sure d) (hok : FsOk d) {s t : ByteArray} (hs : ∀ k, k < n → s ≠ kpN k) (ht : ∀ k, k < n → t ≠ kpN k) : KeepF n sure (d.rename s t).1 := by
  unfold FsD.rename
  split
  · exact h
  · split
    · split
      · exact h.chg
      · split
        · exact h.chg
        · exact h.chg.doit (chg_ok hok) fun k hk => ⟨hs k hk, ht k hk⟩
    · exact h
theorem KeepF.remove (h : KeepF n sure d) (hok : FsOk d) {s : ByteArray} (hs : ∀ k, k < n → s ≠ kpN k) : KeepF n sure (d.remove s).1 := by
  unfold FsD.remove
  split
  · split
    · exact h.chg
    · exact h.chg.doit (chg_ok hok) fun k hk => hs k hk
  · exact h
theorem KeepF.syncDir (h : KeepF n sure d) : KeepF n sure d.syncDir.1 := by
  unfold FsD.syncDir
  split
  · exact h.chg
  · have hc := h.chg
    exact ⟨hc.now, hc.now, fun c hc => absurd hc List.not_mem_nil, hc.file⟩
theorem KeepF.arm (h : KeepF n sure d) (z : Int) : KeepF n sure (d.arm z) := h.congr rfl rfl rfl rfl
theorem KeepF.crash (h : KeepF n sure d) (hok : FsOk d) (picks : List Int) : KeepF n sure (d.crash picks) := by
  have hl : ∀ k, k < n → lookE (lastK d ((FsD.next picks).1 % (d.wait.length + 1))).1 (kpN k) = some k := fun k hk => by
    unfold lastK
    rw [look_fold _ _ hok.lastOk fun c hc => h.wait c (List.mem_of_mem_take hc) k hk]; exact h.last k hk
  refine ⟨hl, hl, fun c hc => absurd hc List.not_mem_nil, fun k hk => ?_⟩
  obtain ⟨x, hx, hs⟩ := h.file k hk
  have hc := cutAll_all (fun j y => j = k → Sure (sure k) y) (fun j y p hy hj => (hy hj).cut p) (lastK d ((FsD.next picks).1 % (d.wait.length + 1))).1 (FsD.sortN ((lastK d ((FsD.next picks).1 % (d.wait.length + 1))).1.map (·.key))) d.files (FsD.next picks).2 (fun j y hy hj => by subst hj; rw [hx] at hy; injection hy with hy; subst hy; exact hs)
  have hlt : k < (FsD.cutAll (lastK d ((FsD.next picks).1 % (d.wait.length + 1))).1 (FsD.sortN ((lastK d ((FsD.next picks).1 % (d.wait.length + 1))).1.map (·.key))) d.files (FsD.next picks).2).length := by rw [hc.1]; exact (List.getElem?_eq_some_iff.1 hx).1
  exact ⟨_, List.getElem?_eq_getElem hlt, hc.2 k _ (List.getElem?_eq_getElem hlt) rfl⟩
theorem KeepF.read (h : KeepF n sure d) (ho : d.off = false) {k : Nat} (hk : k < n) : d.read (kpN k) 0 ((sure k).length : Int) = (sure k, 0) := by
  obtain ⟨x, hx, hs⟩ := h.file k hk
  unfold FsD.read FsD.find
  rw [kpN_name, h.now k hk]
  show (if (0 : Int) < 0 ∨ ((sure k).length : Int) < 0 ∨ ((d.file k).b.length : Int) < 0 then _ else if d.asks ≠ 0 then _ else _) = _
  rw [if_neg (by omega), if_neg (by unfold FsD.asks; rw [ho]; exact fun h => h rfl), file_is hx]
  show ((x.b.drop 0).take (((sure k).length : Nat) : Int).toNat, (0 : Int)) = _
  rw [List.drop_zero, Int.toNat_natCast, hs.2.2]
/-- A file is synced, and read: from now on all of that is sure. -/
theorem KeepF.resync (h : KeepF n sure d) (hok : FsOk d) {j : Nat} (hj : j < n) (he : (d.sync (kpN j)).2 = 0) :
    ∃ b, (d.sync (kpN j)).1.read (kpN j) 0 1048576 = (b, 0) ∧ b.length ≤ 1048576 ∧ KeepF n (fun k => if k = j then b else sure k) (d.sync (kpN j)).1 := by
  obtain ⟨x, hx, hs⟩ := h.file j hj
  have hf : d.find (kpN j) = (0, some j) := find_of (kpN_name j) (h.now j hj)
  have e : d.sync (kpN j) = if d.chg.2 ≠ 0 then d.chg else (d.chg.1.setFile j ⟨x.b, x.b.length⟩, 0) := by
    unfold FsD.sync; rw [hf, ← file_is hx]
  rw [e] at he ⊢
  have hc : d.chg.2 = 0 ∧ d.chg.1.off = false := by
    rcases chg_cases d with ⟨h1, h2⟩ | ⟨h1, h2, ⟨h3, h4⟩ | ⟨h3, h4, h5⟩⟩
    · rw [if_pos (by rw [h1]; decide), h1] at he; exact absurd he (by decide)
    · exact ⟨h1, by rw [h4]; exact h2⟩
    · exact ⟨h1, by rw [h5]; exact h2⟩
  rw [if_neg (fun hn => hn hc.1)]
  have hfl : d.chg.1.files = d.files := (chg_same d).2.1
  have hjl : j < d.chg.1.files.length := by rw [hfl]; exact (List.getElem?_eq_some_iff.1 hx).1
  have hat : (d.chg.1.setFile j ⟨x.b, x.b.length⟩).files[j]? = some ⟨x.b, x.b.length⟩ := by
    show (d.chg.1.files.set j _)[j]? = _
    rw [List.getElem?_set_self hjl]
  refine ⟨x.b, read_of (x := ⟨x.b, x.b.length⟩) (kpN_name j) (h.chg.now j hj) hat hc.2 (hok.len j x hx).1, (hok.len j x hx).1, ?_⟩
  have hk := h.chg.setFile (i := j) (y := ⟨x.b, x.b.length⟩) fun k hk hki y hy hs' => by
    rw [hfl] at hy; subst hki; rw [hx] at hy; injection hy with hy; subst hy; exact hs'.sync
  refine ⟨hk.now, hk.last, hk.wait, fun k hkn => ?_⟩
  by_cases hkj : k = j
  · subst hkj
    exact ⟨_, hat, by
      show Sure (if k = k then x.b else sure k) _
      rw [if_pos rfl]; exact ⟨Nat.le_refl _, Nat.le_refl _, List.take_length⟩⟩
  · obtain ⟨y, hy, hs'⟩ := hk.file k hkn
    exact ⟨y, hy, by
      show Sure (if k = j then x.b else sure k) y
      rw [if_neg hkj]; exact hs'⟩
end
/-! How many changes wait. -/
theorem create_wait (d : FsD) (s : ByteArray) : (d.create s).1.wait.length ≤ d.wait.length + 1 := by
  have hw := (chg_same d).2.2.2.2
  unfold FsD.create
  split
  · exact Nat.le_succ _
  · split
    · exact Nat.le_succ _
    · split
      · exact Nat.le_succ _
      · split
        · rw [hw]; exact Nat.le_succ _
        · show (d.chg.1.wait ++ _).length ≤ _
          rw [List.length_append, hw]; exact Nat.le_refl _
theorem append_wait (d : FsD) (s : ByteArray) (b : List UInt8) : (d.append s b).1.wait.length = d.wait.length := by
  have hw := (chg_same d).2.2.2.2
  unfold FsD.append
  split
  · split
    · rfl
    · split
      · rfl
      · split
        · rw [hw]
        · show d.chg.1.wait.length = _
          rw [hw]
  · rfl
theorem sync_wait (d : FsD) (s : ByteArray) : (d.sync s).1.wait.length = d.wait.length := by
  have hw := (chg_same d).2.2.2.2
  unfold FsD.sync
  split
  · split
    · rw [hw]
    · show d.chg.1.wait.length = _
      rw [hw]
  · rfl
theorem rename_wait (d : FsD) (s t : ByteArray) : (d.rename s t).1.wait.length ≤ d.wait.length + 1 := by
  have hw := (chg_same d).2.2.2.2
  unfold FsD.rename
  split
  · exact Nat.le_succ _
  · split
    · split
      · rw [hw]; exact Nat.le_succ _
      · split
        · show d.chg.1.wait.length ≤ _
          rw [hw]; exact Nat.le_succ _
        · show (d.chg.1.wait ++ _).length ≤ _
          rw [List.length_append, hw]; exact Nat.le_refl _
    · exact Nat.le_succ _
theorem remove_wait (d : FsD) (s : ByteArray) : (d.remove s).1.wait.length ≤ d.wait.length + 1 := by
  have hw := (chg_same d).2.2.2.2
  unfold FsD.remove
  split
  · split
    · rw [hw]; exact Nat.le_succ _
    · show (d.chg.1.wait ++ _).length ≤ _
      rw [List.length_append, hw]; exact Nat.le_refl _
  · exact Nat.le_succ _
theorem syncDir_wait (d : FsD) : d.syncDir.1.wait.length ≤ d.wait.length := by
  have hw := (chg_same d).2.2.2.2
  unfold FsD.syncDir
  split
  · rw [hw]; exact Nat.le_refl _
  · exact Nat.zero_le _
/-- Behind so many of the files that are kept. -/
structure KeepS (i : Nat) (sure : Nat → List UInt8) (d : FsD) : Prop where
  on : OnI 1048576 d
  len : d.files.length = i
  now : d.now.1.length = i
  look : ∀ k, k < i → lookE d.now.1 (kpN k) = some k ∧ d.files[k]? = some ⟨sure k, (sure k).length⟩
  free : ∀ k, i ≤ k → k < 5 → lookE d.now.1 (kpN k) = none
  small : ∀ x ∈ d.files, x.b.length ≤ 2000
  wait : d.wait.length = i
theorem keep_start {sure : Nat → List UInt8} : KeepS 0 sure (fsNew 1048576) :=
  ⟨⟨rfl, rfl, rfl⟩, rfl, rfl, fun k hk => absurd hk (Nat.not_lt_zero k), fun k _ _ => rfl, fun x hx => absurd hx List.not_mem_nil, rfl⟩
theorem KeepS.used {i : Nat} {sure : Nat → List UInt8} {d : FsD} (h : KeepS i sure d) : d.used ≤ i * 2000 := by
  unfold FsD.used
  refine Nat.le_trans (sum_le (c := 2000) fun y hy => ?_) (by rw [List.length_map, h.now]; exact Nat.le_refl _)
  obtain ⟨e, he, rfl⟩ := List.mem_map.1 hy
  unfold FsD.file
  cases hx : d.files[e.val]? with
  | none => exact Nat.zero_le _
  | some x => exact h.small x (List.mem_of_getElem? hx)
theorem KeepS.step {i : Nat} {sure : Nat → List UInt8} {d : FsD} (h : KeepS i sure d) (hi : i < 5) (hs : (sure i).length ≤ 2000) :
    (d.create (kpN i)).2 = 0 ∧ ((d.create (kpN i)).1.append (kpN i) (sure i)).2 = 0 ∧ (((d.create (kpN i)).1.append (kpN i) (sure i)).1.sync (kpN i)).2 = 0 ∧ KeepS (i + 1) sure (((d.create (kpN i)).1.append (kpN i) (sure i)).1.sync (kpN i)).1 := by
  have hno := h.free i (Nat.le_refl i) hi
  have hf : d.find (kpN i) = (7, none) := by unfold FsD.find; rw [kpN_name, hno]; rfl
  have e1 : d.create (kpN i) = (({ d with files := d.files ++ [⟨[], 0⟩] } : FsD).doit (.new (kpN i) d.files.length), 0) := by
    unfold FsD.create
    rw [hf, h.on.chg]
    have hl : ¬ 400 ≤ d.now.1.length := by rw [h.now]; omega
    show (if 400 ≤ d.now.1.length then (d, (14 : Int)) else _) = _
    rw [if_neg hl]; rfl
  rw [e1]
  obtain ⟨d1, hd1⟩ : ∃ d1, (({ d with files := d.files ++ [⟨[], 0⟩] } : FsD).doit (.new (kpN i) d.files.length)) = d1 := ⟨_, rfl⟩
  rw [hd1]
  have on1 : OnI 1048576 d1 := by subst hd1; exact ⟨h.on.room, h.on.off, h.on.armed⟩
  have f1 : d1.files = d.files ++ [⟨[], 0⟩] := by subst hd1; rfl
  have n1 : d1.now = putE d.now.1 d.now.2 (kpN i) i := by subst hd1; show putE d.now.1 d.now.2 (kpN i) d.files.length = _; rw [h.len]
  have w1 : d1.wait.length = i + 1 := by subst hd1; show (d.wait ++ _).length = _; rw [List.length_append, h.wait]; rfl
  have hlook1 : ∀ k, lookE d1.now.1 (kpN k) = if kpN k = kpN i then some i else lookE d.now.1 (kpN k) := fun k => by rw [n1, lookE_put]
  have hli : lookE d1.now.1 (kpN i) = some i := by rw [hlook1, if_pos rfl]
  have hn1 : d1.now.1.length = i + 1 := by
    rw [n1, len_put, hno, h.now]; rfl
  have hfi1 : d1.files[i]? = some ⟨[], 0⟩ := by rw [f1, List.getElem?_append_right (by rw [h.len]; exact Nat.le_refl _), h.len, Nat.sub_self]; rfl
  have hlen1 : d1.files.length = i + 1 := by rw [f1, List.length_append, h.len]; rfl
  have hsm1 : ∀ x ∈ d1.files, x.b.length ≤ 2000 := fun x hx => by
    rw [f1] at hx
    rcases List.mem_append.1 hx with hx | hx
    · exact h.small x hx
    · rw [List.mem_singleton] at hx; subst hx; exact Nat.zero_le _
  have hu1 : d1.used ≤ (i + 1) * 2000 := by
    unfold FsD.used
    refine Nat.le_trans (sum_le (c := 2000) fun y hy => ?_) (by rw [List.length_map, hn1]; exact Nat.le_refl _)
    obtain ⟨e, he, rfl⟩ := List.mem_map.1 hy
    unfold FsD.file
    cases hx : d1.files[e.val]? with
    | none => exact Nat.zero_le _
    | some x => exact hsm1 x (List.mem_of_getElem? hx)
  have hf1 : d1.find (kpN i) = (0, some i) := find_of (kpN_name i) hli
  have e2 : d1.append (kpN i) (sure i) = (d1.setFile i ⟨sure i, 0⟩, 0) := by
    rw [append_at hf1 on1.chg (by rw [on1.room]; omega) (by rw [file_is hfi1]; show 0 + _ ≤ _; omega), file_is hfi1]; rfl
  rw [e2]
  obtain ⟨d2, hd2⟩ : ∃ d2, d1.setFile i ⟨sure i, 0⟩ = d2 := ⟨_, rfl⟩
  rw [show (d1.setFile i ⟨sure i, 0⟩, (0 : Int)).1 = d2 from hd2]
  have on2 : OnI 1048576 d2 := by subst hd2; exact ⟨on1.room, on1.off, on1.armed⟩
  have f2 : d2.files = d1.files.set i ⟨sure i, 0⟩ := by subst hd2; rfl
  have n2 : d2.now = d1.now := by subst hd2; rfl
  have w2 : d2.wait = d1.wait := by subst hd2; rfl
  have hf2 : d2.find (kpN i) = (0, some i) := find_of (kpN_name i) (by rw [n2]; exact hli)
  have hfi2 : d2.files[i]? = some ⟨sure i, 0⟩ := by rw [f2, List.getElem?_set_self (by rw [hlen1]; exact Nat.lt_succ_self i)]
  have e3 : d2.sync (kpN i) = (d2.setFile i ⟨sure i, (sure i).length⟩, 0) := by
    unfold FsD.sync
    rw [hf2, on2.chg, ← show (d2.file i).b = sure i by rw [file_is hfi2]]
    rfl
  rw [e3]
  refine ⟨rfl, rfl, rfl, ⟨on2.room, on2.off, on2.armed⟩, ?_, ?_, fun k hk => ?_, fun k hk hk5 => ?_, fun x hx => ?_, ?_⟩
  · show (d2.files.set i _).length = _
    rw [List.length_set, f2, List.length_set]; exact hlen1
  · show d2.now.1.length = _
    rw [n2]; exact hn1
  · refine ⟨?_, ?_⟩
    · show lookE d2.now.1 (kpN k) = _
      rw [n2, hlook1]
      by_cases hki : k = i
      · subst hki; rw [if_pos rfl]
      · rw [if_neg (fun e => hki (kpN_inj (by omega) hi e))]
        exact (h.look k (by omega)).1
    · show (d2.files.set i _)[k]? = _
      by_cases hki : i = k
      · subst hki; rw [List.getElem?_set_self (by rw [f2, List.length_set, hlen1]; exact Nat.lt_succ_self i)]
      · rw [List.getElem?_set_ne hki, f2, List.getElem?_set_ne hki, f1, List.getElem?_append_left (by rw [h.len]; omega)]
        exact (h.look k (by omega)).2
  · show lookE d2.now.1 (kpN k) = _
    rw [n2, hlook1, if_neg (fun e => by have := kpN_inj hk5 hi e; omega)]
    exact h.free k (by omega) hk5
  · have hx' : x ∈ d2.files.set i ⟨sure i, (sure i).length⟩ := hx
    rcases List.mem_or_eq_of_mem_set hx' with hx | rfl
    · rw [f2] at hx
      rcases List.mem_or_eq_of_mem_set hx with hx | rfl
      · exact hsm1 x hx
      · exact hs
    · exact hs
  · show d2.wait.length = _
    rw [w2]; exact w1
/-- Behind the SyncDir all that is kept lasts. -/
theorem KeepS.done {n : Nat} {sure : Nat → List UInt8} {d : FsD} (h : KeepS n sure d) : d.syncDir.2 = 0 ∧ KeepF n sure d.syncDir.1 ∧ d.syncDir.1.wait = [] := by
  have e : d.syncDir = ({ d with last := d.now, wait := [] }, 0) := by
    unfold FsD.syncDir
    rw [h.on.chg]; rfl
  rw [e]
  exact ⟨rfl, ⟨fun k hk => (h.look k hk).1, fun k hk => (h.look k hk).1, fun c hc => absurd hc List.not_mem_nil, fun k hk => ⟨_, (h.look k hk).2, Nat.le_refl _, Nat.le_refl _, List.take_length⟩⟩, rfl⟩
end Go.Proofs.YtjmafbdakalknaaDoor
