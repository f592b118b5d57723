/- Files that a crash may cut: a directory in order, and each call's contract over it. -/
import Derived.Test.YtjmafbdakalknaaDoorFsFiles
import Derived.Test.YtjmafbdakalknaaDoorFsBy
set_option linter.unusedVariables false
set_option linter.unusedSimpArgs false
namespace Go.Proofs.YtjmafbdakalknaaDoor
open Go Go.RowKit Hv
/-- A directory in order, in the objects S. -/
def FsS (H : Hp) (n : Nat) (S : Nat → Prop) (p : Nat) (d : FsD) : Prop := (∃ L, FsH H S p L d) ∧ FsOk d ∧ ∀ j, S j → j < n
theorem FsS.ok {H : Hp} {n : Nat} {S : Nat → Prop} {p : Nat} {d : FsD} (h : FsS H n S p d) : FsOk d := h.2.1
theorem FsS.lt {H : Hp} {n : Nat} {S : Nat → Prop} {p : Nat} {d : FsD} (h : FsS H n S p d) : ∀ j, S j → j < n := h.2.2
theorem FsS.frame {H H' : Hp} {n n' : Nat} {S : Nat → Prop} {p : Nat} {d : FsD} (h : FsS H n S p d) (hn : n ≤ n') (hh : ∀ j, S j → H' j = H j) : FsS H' n' S p d := by
  obtain ⟨⟨L, h1⟩, h2, h3⟩ := h
  exact ⟨⟨L, h1.frame hh⟩, h2, fun j hj => Nat.lt_of_lt_of_le (h3 j hj) hn⟩
/-- Something else is laid or written. -/
theorem FsS.u {H : Hp} {n m : Nat} {S : Nat → Prop} {p : Nat} {d : FsD} {o : Option AO} (h : FsS H n S p d) (hm : ¬ S m) : FsS (upd H m o) n S p d :=
  h.frame (Nat.le_refl n) fun j hj => upd_other fun e => hm (e ▸ hj)
theorem FsS.up {H : Hp} {n n' : Nat} {S : Nat → Prop} {p : Nat} {d : FsD} (h : FsS H n S p d) (hn : n ≤ n') : FsS H n' S p d := h.frame hn fun _ _ => rfl
theorem FsS.nu {H : Hp} {n m : Nat} {S : Nat → Prop} {p : Nat} {d : FsD} (h : FsS H n S p d) (hm : n ≤ m) : ¬ S m := fun hs => Nat.lt_irrefl _ (Nat.lt_of_lt_of_le (h.2.2 m hs) hm)
/-- Something is laid behind all. -/
theorem FsS.new {H : Hp} {n m n' : Nat} {S : Nat → Prop} {p : Nat} {d : FsD} {o : Option AO} (h : FsS H n S p d) (hm : n ≤ m) (hn : n ≤ n') : FsS (upd H m o) n' S p d := (h.u (h.nu hm)).up hn
theorem FsS.new3 {H : Hp} {n a b c n' : Nat} {S : Nat → Prop} {p : Nat} {d : FsD} {o o' o'' : Option AO} (h : FsS H n S p d) (ha : n ≤ a) (hb : n ≤ b) (hc : n ≤ c) (hn : n ≤ n') : FsS (upd (upd (upd H a o) b o') c o'') n' S p d := (((h.u (h.nu ha)).u (h.nu hb)).u (h.nu hc)).up hn
/-- What a call makes of it; whatever is not the directory's stays. -/
def FsP (H : Hp) (n : Nat) (S : Nat → Prop) (p : Nat) (d' : FsD) (res : AV) (r : AV) (H' : Hp) (n' : Nat) : Prop :=
  r = res ∧ ∃ S', FsS H' n' S' p d' ∧ n ≤ n' ∧ ∀ j, j < n → ¬ S j → H' j = H j ∧ ¬ S' j
/-- An object that lies beside the directory. -/
def Own (H : Hp) (n : Nat) (S : Nat → Prop) (j : Nat) (o : AO) : Prop := H j = some o ∧ j < n ∧ ¬ S j
theorem Own.at {H : Hp} {n : Nat} {S : Nat → Prop} {j : Nat} {o : AO} (h : Own H n S j o) : H j = some o := h.1
theorem Own.keep {H H' : Hp} {n n' : Nat} {S S' : Nat → Prop} {j : Nat} {o : AO} (h : Own H n S j o) (hn : n ≤ n') (k : ∀ j, j < n → ¬ S j → H' j = H j ∧ ¬ S' j) : Own H' n' S' j o :=
  ⟨(k j h.2.1 h.2.2).1.trans h.1, Nat.lt_of_lt_of_le h.2.1 hn, (k j h.2.1 h.2.2).2⟩
theorem Own.new {H : Hp} {n n' m : Nat} {S : Nat → Prop} {j : Nat} {o : AO} {o' : Option AO} (h : Own H n S j o) (hm : n ≤ m) (hn : n ≤ n') : Own (upd H m o') n' S j o :=
  ⟨(upd_other (by have := h.2.1; omega)).trans h.1, Nat.lt_of_lt_of_le h.2.1 hn, h.2.2⟩
theorem Own.same {H H' : Hp} {n n' : Nat} {S : Nat → Prop} {j : Nat} {o : AO} (h : Own H n S j o) (hn : n ≤ n') (hh : ∀ j, j < n → H' j = H j) : Own H' n' S j o :=
  ⟨(hh j h.2.1).trans h.1, Nat.lt_of_lt_of_le h.2.1 hn, h.2.2⟩
theorem Own.other {H : Hp} {n m : Nat} {S : Nat → Prop} {j : Nat} {o : AO} {o' : Option AO} (h : Own H n S j o) (hm : m ≠ j) : Own (upd H m o') n S j o := ⟨(upd_other hm).trans h.1, h.2⟩
theorem Own.put {H : Hp} {n : Nat} {S : Nat → Prop} {j : Nat} {o o' : AO} (h : Own H n S j o) : Own (upd H j (some o')) n S j o' := ⟨upd_same _ _ _, h.2⟩
theorem Own.lay {H : Hp} {n m : Nat} {S : Nat → Prop} {o : AO} (hm : m < n) (hS : ¬ S m) : Own (upd H m (some o)) n S m o := ⟨upd_same _ _ _, hm, hS⟩
theorem FsP.of {H : Hp} {n : Nat} {S : Nat → Prop} {p : Nat} {d' : FsD} {res r : AV} {H' : Hp} {n' : Nat} (ok : FsOk d') (h : FsPost H n S p d' res r H' n') : FsP H n S p d' res r H' n' := by
  obtain ⟨hr, S', L', h1, h2, h3, h4, h5⟩ := h
  refine ⟨hr, S', ⟨⟨L', h1⟩, ok, h3⟩, h2, fun j hj hs => ⟨h5 j hj hs, fun hs' => ?_⟩⟩
  rcases h4 j hs' with h | h
  · exact hs h
  · omega
theorem new_c {H : Hp} {n : Nat} {room : Int} (hr : 0 ≤ room ∧ room ≤ 1073741824) :
    HCalls Tryd.prog 11 [.lit (.int .i64 room)] H n (FsP H n (fun _ => False) (n + 2) (fsNew room) (.tup [.ptr (n + 2) 0, .lit (.int .i64 0)])) :=
  (new_h hr).mono fun _ _ _ h => FsP.of (fsNew_ok hr) h
section
variable {H : Hp} {n : Nat} {S : Nat → Prop} {p : Nat} {d : FsD}
theorem create_c (h : FsS H n S p d) (hw : d.wait.length ≤ 1000000) (s : ByteArray) :
    HCalls Tryd.prog 12 [.ptr p 0, .lit (.string s)] H n (FsP H n S p (d.create s).1 (.lit (.int .i64 (d.create s).2))) := by
  obtain ⟨⟨L, h1⟩, ok, hS⟩ := h
  exact (create_h h1 ok hS hw s).mono fun _ _ _ h => FsP.of (create_ok ok s) h
theorem append_c (h : FsS H n S p d) (s : ByteArray) {x : AV} {b : List UInt8} (hx : BArg H n S x b) (hb : b.length ≤ 1000000000) :
    HCalls Tryd.prog 13 [.ptr p 0, .lit (.string s), x] H n (FsP H n S p (d.append s b).1 (.lit (.int .i64 (d.append s b).2))) := by
  obtain ⟨⟨L, h1⟩, ok, hS⟩ := h
  exact (append_h h1 ok hS s hx hb).mono fun _ _ _ h => FsP.of (append_ok ok s b) h
/-- A []byte of a text is a row just laid. -/
theorem append_s (h : FsS H n S p d) (s : ByteArray) {m : Bool} (b : ByteArray) (hb : b.size ≤ 1000000000) :
    HCalls Tryd.prog 13 [.ptr p 0, .lit (.string s), .rw n 1 0 b.size] (upd H n (some (.row m 5 (byL b.data.toList)))) (n + 1) (FsP (upd H n (some (.row m 5 (byL b.data.toList)))) (n + 1) S p (d.append s b.data.toList).1 (.lit (.int .i64 (d.append s b.data.toList).2))) :=
  append_c (h.new (Nat.le_refl n) (Nat.le_succ n)) s (.inl ⟨n, m, rfl, Nat.lt_succ_self n, h.nu (Nat.le_refl n), upd_same _ _ _⟩) hb
theorem sync_c (h : FsS H n S p d) (s : ByteArray) :
    HCalls Tryd.prog 14 [.ptr p 0, .lit (.string s)] H n (FsP H n S p (d.sync s).1 (.lit (.int .i64 (d.sync s).2))) := by
  obtain ⟨⟨L, h1⟩, ok, hS⟩ := h
  exact (sync_h h1 ok hS s).mono fun _ _ _ h => FsP.of (sync_ok' ok s) h
theorem rename_c (h : FsS H n S p d) (hw : d.wait.length ≤ 1000000) (s t : ByteArray) :
    HCalls Tryd.prog 22 [.ptr p 0, .lit (.string s), .lit (.string t)] H n (FsP H n S p (d.rename s t).1 (.lit (.int .i64 (d.rename s t).2))) := by
  obtain ⟨⟨L, h1⟩, ok, hS⟩ := h
  exact (rename_h h1 ok hS hw s t).mono fun _ _ _ h => FsP.of (rename_ok ok s t) h
theorem remove_c (h : FsS H n S p d) (hw : d.wait.length ≤ 1000000) (s : ByteArray) :
    HCalls Tryd.prog 23 [.ptr p 0, .lit (.string s)] H n (FsP H n S p (d.remove s).1 (.lit (.int .i64 (d.remove s).2))) := by
  obtain ⟨⟨L, h1⟩, ok, hS⟩ := h
  exact (remove_h h1 ok hS hw s).mono fun _ _ _ h => FsP.of (remove_ok ok s) h
theorem syncDir_c (h : FsS H n S p d) :
    HCalls Tryd.prog 15 [.ptr p 0] H n (FsP H n S p d.syncDir.1 (.lit (.int .i64 d.syncDir.2))) := by
  obtain ⟨⟨L, h1⟩, ok, hS⟩ := h
  exact (syncDir_h h1 ok hS).mono fun _ _ _ h => FsP.of (syncDir_ok ok) h
theorem crash_c {c : AV} {picks : List Int} (h : FsS H n S p d) (hw : d.wait.length ≤ 1000000) (hc : PicksIs H n c picks) :
    HCalls Tryd.prog 16 [.ptr p 0, c] H n (FsP H n S p (d.crash picks) (.tup [])) := by
  obtain ⟨⟨L, h1⟩, ok, hS⟩ := h
  exact (crash_h h1 ok hS hw hc).mono fun _ _ _ h => FsP.of (crash_ok ok picks) h
theorem arm_ok (ok : FsOk d) {z : Int} (hz : z < 9223372036854775808) : FsOk (d.arm z) :=
  ok.congr rfl rfl rfl rfl rfl fun h => ⟨of_decide_eq_true h, hz⟩
theorem arm_c (h : FsS H n S p d) {z : Int} (hz : z < 9223372036854775808) :
    HCalls Tryd.prog 18 [.ptr p 0, .lit (.int .i64 z)] H n (FsP H n S p (d.arm z) (.tup [])) := by
  obtain ⟨⟨L, h1⟩, ok, hS⟩ := h
  refine (arm_h h1 z).mono fun r H' n' h => ?_
  obtain ⟨hr, rfl, h2, h3⟩ := h
  exact ⟨hr, S, ⟨⟨L, h2⟩, arm_ok ok hz, hS⟩, Nat.le_refl _, fun j hj hs => ⟨h3 j fun e => hs (e ▸ h1.Sp), hs⟩⟩
theorem off_c (h : FsS H n S p d) :
    HCalls Tryd.prog 20 [.ptr p 0] H n fun r H' n' => r = .lit (.bool d.off) ∧ H' = H ∧ n' = n := by
  obtain ⟨⟨L, h1⟩, ok, hS⟩ := h
  exact off_h h1
theorem size_c (h : FsS H n S p d) (s : ByteArray) :
    HCalls Tryd.prog 19 [.ptr p 0, .lit (.string s)] H n fun r H' n' => H' = H ∧ n' = n ∧ r = .tup [.lit (.int .i64 (d.size s).1), .lit (.int .i64 (d.size s).2)] := by
  obtain ⟨⟨L, h1⟩, ok, hS⟩ := h
  exact size_h h1 ok s
/-- A call that leaves all that was. -/
def SameP (H : Hp) (n : Nat) (res : AV) (r : AV) (H' : Hp) (n' : Nat) : Prop := r = res ∧ n ≤ n' ∧ ∀ j, j < n → H' j = H j
theorem used_c (h : FsS H n S p d) :
    HCalls Tryd.prog 21 [.ptr p 0] H n (SameP H n (.lit (.int .i64 (d.used : Int)))) := by
  obtain ⟨⟨L, h1⟩, ok, hS⟩ := h
  exact (used_h h1 ok hS).mono fun r H' n' h => by
    obtain ⟨hr, rfl, hh⟩ := h
    exact ⟨hr, Nat.le_succ _, hh⟩
theorem FsS.same {H' : Hp} {n' : Nat} (h : FsS H n S p d) (hn : n ≤ n') (hh : ∀ j, j < n → H' j = H j) : FsS H' n' S p d := h.frame hn fun j hj => hh j (h.2.2 j hj)
theorem read_c (h : FsS H n S p d) (s : ByteArray) (off k : Int) (hk : -4611686018427387904 ≤ k ∧ k ≤ 4611686018427387904) :
    HCalls Tryd.prog 17 [.ptr p 0, .lit (.string s), .lit (.int .i64 off), .lit (.int .i64 k)] H n (OutB H n (d.read s off k).1 (d.read s off k).2) := by
  obtain ⟨⟨L, h1⟩, ok, hS⟩ := h
  exact read_h h1 ok hS s off k hk
theorem list_c (h : FsS H n S p d) :
    HCalls Tryd.prog 31 [.ptr p 0] H n (OutN H n d.list.1 d.list.2) := by
  obtain ⟨⟨L, h1⟩, ok, hS⟩ := h
  exact list_h h1 ok hS
end
/-- A number, wrapped, modulo a small one. -/
theorem u64_mod (z : Int) {K : Nat} (hK : 0 < K) (hK' : K ≤ 1000000) : ∃ m : Nat, m < K ∧ (IntKind.u64.wrap z).tmod (K : Int) = (m : Int) ∧ IntKind.i64.wrap (m : Int) = (m : Int) := by
  have h0 : IntKind.u64.wrap z = z % 18446744073709551616 := by simp [IntKind.wrap, IntKind.bits, IntKind.signed]
  obtain ⟨u, hu⟩ : ∃ u : Nat, IntKind.u64.wrap z = (u : Int) := ⟨(z % 18446744073709551616).toNat, by rw [h0]; omega⟩
  have hm : u % K < K := Nat.mod_lt _ hK
  exact ⟨u % K, hm, by rw [hu]; exact (Int.ofNat_tmod _ _).symm, IntWalk.i64_in _ (by omega)⟩
theorem str_nil {s : ByteArray} (h : s.data.toList = []) : s = ⟨#[]⟩ := by
  cases s with
  | mk d => cases d with
    | mk l => have h : l = [] := h; rw [h]
theorem bytesOf_nil : bytesOf [] = some [] := rfl
theorem strOf_nil : strOfNums [] = ⟨#[]⟩ := rfl
theorem bne_self (s : ByteArray) : (s != s) = false := by unfold bne; rw [str_refl]; rfl
theorem files_c {H : Hp} {n : Nat} : HCalls Tryd.prog 10 [] H n (SameP H n (.lit (.bool true))) := files_h
/-- One of the calls that a statement plays. -/
structure DeedD where
  call : Int
  name : ByteArray
  dst : ByteArray
  a : Int
  b : Int
  data : ByteArray
  picks : List Int
def deedI (d : DeedD) : List AV := [.lit (.int .i64 d.call), .lit (.string d.name), .lit (.string d.dst), .lit (.int .i64 d.a), .lit (.int .i64 d.b), .lit (.string d.data), .sl (d.picks.map intI)]
/-- What a call handed in may hold. -/
def DeedOk (d : DeedD) : Prop := d.picks.length * 8 ≤ 140737488355328 ∧ (-9223372036854775808 ≤ d.a ∧ d.a ≤ 9223372036854775807) ∧ (-9223372036854775808 ≤ d.b ∧ d.b ≤ 9223372036854775807) ∧ d.name.size ≤ 140737488355328 ∧ d.dst.size ≤ 140737488355328 ∧ d.data.size ≤ 140737488355328
theorem noId_deed (d : DeedD) : ∀ c ∈ deedI d, NoId c := by simp [deedI, intI, noId_sl, noId_lit]
theorem noId_deeds (row : List DeedD) : NoId (.sl (row.map deedI)) := by
  rw [noId_sl]
  intro it hit
  obtain ⟨d, _, rfl⟩ := List.mem_map.1 hit
  exact noId_deed d
theorem noId_strs (l : List ByteArray) : NoId (.sl (l.map strI)) := by simp [noId_sl, strI, noId_lit]
theorem noId_ints (l : List Int) : NoId (.sl (l.map intI)) := by simp [noId_sl, intI, noId_lit]
/-- An old file's bytes and a new one's. -/
structure SwapD where
  old : ByteArray
  new : ByteArray
  arm : Int
  picks : List Int
def swapA (x : SwapD) : AV := .agg [.lit (.string x.old), .lit (.string x.new), .lit (.int .i64 x.arm), .sl (x.picks.map intI)]
end Go.Proofs.YtjmafbdakalknaaDoor
