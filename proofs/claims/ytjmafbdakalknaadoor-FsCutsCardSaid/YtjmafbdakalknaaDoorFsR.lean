/- Files that a crash may cut: how a directory lies in the heap. -/
import Derived.Test.YtjmafbdakalknaaDoorFsSort
import Derived.Test.YtjmafbdakalknaaDoorHvSet
set_option linter.unusedVariables false
set_option linter.unusedSimpArgs false
namespace Go.Proofs.YtjmafbdakalknaaDoor
open Go Go.RowKit Hv

def fA (fid : Nat → Nat) (i : Nat) : AV := .ptr (fid i) 0
def mapA (fid : Nat → Nat) (d : DirD) : AO := .map (d.1.map (Ent.me strA (fA fid))) d.2
/-- A file's bytes. -/
def BV (H : Hp) (fi r : Nat) (bv : AV) (l : List UInt8) : Prop :=
  (bv = .lit (.slice none 0 0) ∧ l = [] ∧ r = fi) ∨ (bv = .rw r 1 0 l.length ∧ H r = some (.row true 5 (byL l)))
/-- A change that waits. -/
def ChIs (H : Hp) (fid : Nat → Nat) (S : Nat → Prop) (it : List AV) : ChD → Prop
  | .new n i => ∃ a b, it = [.fn 36 [.ptr a 0, .ptr b 0]] ∧ H a = some (.cells [fA fid i]) ∧ H b = some (.cells [strA n]) ∧ S a ∧ S b
  | .ren s t i => ∃ a b c, it = [.fn 43 [.ptr a 0, .ptr b 0, .ptr c 0]] ∧ H a = some (.cells [strA s]) ∧ H b = some (.cells [fA fid i]) ∧ H c = some (.cells [strA t]) ∧ S a ∧ S b ∧ S c
  | .rem n => ∃ a, it = [.fn 44 [.ptr a 0]] ∧ H a = some (.cells [strA n]) ∧ S a
def WaitIs (H : Hp) (fid : Nat → Nat) (S : Nat → Prop) (wv : AV) (wait : List ChD) : Prop :=
  (wv = .lit (.slice none 0 0) ∧ wait = []) ∨ ∃ r items, wv = .rw r 1 0 wait.length ∧ H r = some (.row false 81 items) ∧ S r ∧ items.length = wait.length ∧ ∀ (k : Nat) (it : List AV) (c : ChD), items[k]? = some it → wait[k]? = some c → ChIs H fid S it c
structure FsL where
  mn : Nat
  ml : Nat
  fid : Nat → Nat
  rid : Nat → Nat
  wv : AV
def topA (L : FsL) (d : FsD) : List AV := [.lit (.int .i64 d.room), .mp L.mn, .mp L.ml, L.wv, .lit (.bool d.off), .lit (.bool d.armed), .lit (.int .i64 d.left)]
structure FsH (H : Hp) (S : Nat → Prop) (p : Nat) (L : FsL) (d : FsD) : Prop where
  top : H p = some (.cells (topA L d))
  now : H L.mn = some (mapA L.fid d.now)
  last : H L.ml = some (mapA L.fid d.last)
  ne : L.mn ≠ L.ml
  file : ∀ (i : Nat) (x : FileD), d.files[i]? = some x → ∃ bv, H (L.fid i) = some (.cells [bv, .lit (.int .i64 (x.last : Int))]) ∧ BV H (L.fid i) (L.rid i) bv x.b
  finj : ∀ i j, i < d.files.length → j < d.files.length → L.fid i = L.fid j → i = j
  rinj : ∀ i j, i < d.files.length → j < d.files.length → L.rid i = L.rid j → i = j
  wait : WaitIs H L.fid S L.wv d.wait
  Sp : S p
  Sn : S L.mn
  Sl : S L.ml
  Sf : ∀ i, i < d.files.length → S (L.fid i) ∧ S (L.rid i)
theorem BV.keep {H H' : Hp} {fi r : Nat} {bv : AV} {l : List UInt8} (h : BV H fi r bv l) (hh : H' r = H r) : BV H' fi r bv l := by
  rcases h with h | ⟨h1, h2⟩
  · exact .inl h
  · exact .inr ⟨h1, hh.trans h2⟩
theorem BV.one {H : Hp} {fi r : Nat} {bv : AV} {l : List UInt8} (h : BV H fi r bv l) : AV.isOne bv = true := by
  rcases h with ⟨rfl, _⟩ | ⟨rfl, _⟩ <;> rfl
theorem ChIs.keep {H H' : Hp} {fid : Nat → Nat} {S S' : Nat → Prop} {it : List AV} {c : ChD} (h : ChIs H fid S it c) (hh : ∀ j cs, S j → cs.length = 1 → H j = some (.cells cs) → H' j = some (.cells cs)) (hS : ∀ j, S j → S' j) : ChIs H' fid S' it c := by
  cases c with
  | new n i =>
    obtain ⟨a, b, h1, h2, h3, h4, h5⟩ := h
    exact ⟨a, b, h1, hh a _ h4 rfl h2, hh b _ h5 rfl h3, hS a h4, hS b h5⟩
  | ren s t i =>
    obtain ⟨a, b, c, h1, h2, h3, h4, h5, h6, h7⟩ := h
    exact ⟨a, b, c, h1, hh a _ h5 rfl h2, hh b _ h6 rfl h3, hh c _ h7 rfl h4, hS a h5, hS b h6, hS c h7⟩
  | rem n =>
    obtain ⟨a, h1, h2, h3⟩ := h
    exact ⟨a, h1, hh a _ h3 rfl h2, hS a h3⟩
/-- Changes name files that are there. -/
theorem ChIs.fid {H : Hp} {fid fid' : Nat → Nat} {S : Nat → Prop} {it : List AV} {c : ChD} (h : ChIs H fid S it c) (hf : ∀ i, (match c with | .new _ j => j = i | .ren _ _ j => j = i | .rem _ => False) → fid' i = fid i) : ChIs H fid' S it c := by
  cases c with
  | new n i =>
    obtain ⟨a, b, h1, h2, h3⟩ := h
    exact ⟨a, b, h1, by rw [h2]; unfold fA; rw [hf i rfl], h3⟩
  | ren s t i =>
    obtain ⟨a, b, c, h1, h2, h3, h4⟩ := h
    exact ⟨a, b, c, h1, h2, by rw [h3]; unfold fA; rw [hf i rfl], h4⟩
  | rem n => exact h
theorem WaitIs.keep {H H' : Hp} {fid : Nat → Nat} {S S' : Nat → Prop} {wv : AV} {wait : List ChD} (h : WaitIs H fid S wv wait) (hr : ∀ j items, S j → H j = some (.row false 81 items) → H' j = some (.row false 81 items)) (hh : ∀ j cs, S j → cs.length = 1 → H j = some (.cells cs) → H' j = some (.cells cs)) (hS : ∀ j, S j → S' j) : WaitIs H' fid S' wv wait := by
  rcases h with h | ⟨r, items, h1, h2, h3, h4, h5⟩
  · exact .inl h
  · exact .inr ⟨r, items, h1, hr r items h3 h2, hS r h3, h4, fun k it c hk hc => (h5 k it c hk hc).keep hh hS⟩
theorem WaitIs.one {H : Hp} {fid : Nat → Nat} {S : Nat → Prop} {wv : AV} {wait : List ChD} (h : WaitIs H fid S wv wait) : AV.isOne wv = true := by
  rcases h with ⟨rfl, _⟩ | ⟨r, items, rfl, _⟩ <;> rfl
/-- What lies elsewhere may change. -/
theorem FsH.frame {H H' : Hp} {S : Nat → Prop} {p : Nat} {L : FsL} {d : FsD} (h : FsH H S p L d) (hh : ∀ j, S j → H' j = H j) : FsH H' S p L d := by
  refine ⟨(hh p h.Sp).trans h.top, (hh _ h.Sn).trans h.now, (hh _ h.Sl).trans h.last, h.ne, fun i x hx => ?_, h.finj, h.rinj, h.wait.keep (fun j _ hs e => (hh j hs).trans e) (fun j _ hs _ e => (hh j hs).trans e) (fun _ hs => hs), h.Sp, h.Sn, h.Sl, h.Sf⟩
  obtain ⟨bv, h1, h2⟩ := h.file i x hx
  have hs := h.Sf i (List.getElem?_eq_some_iff.1 hx).1
  exact ⟨bv, (hh _ hs.1).trans h1, h2.keep (hh _ hs.2)⟩
/-- The head changes. -/
theorem FsH.retop {H H' : Hp} {S : Nat → Prop} {p : Nat} {L : FsL} {d : FsD} (h : FsH H S p L d) (hh : ∀ j, j ≠ p → H' j = H j) (off armed : Bool) (left : Int) (ht : H' p = some (.cells [.lit (.int .i64 d.room), .mp L.mn, .mp L.ml, L.wv, .lit (.bool off), .lit (.bool armed), .lit (.int .i64 left)])) :
    FsH H' S p L { d with off := off, armed := armed, left := left } := by
  have hc : ∀ j cs, cs.length ≠ 7 → H j = some (.cells cs) → H' j = some (.cells cs) := fun j cs hl e => by
    rw [hh j fun hj => ?_]; exact e
    subst hj
    rw [h.top] at e
    injection e with e; injection e with e
    subst e
    exact hl rfl
  have hr : ∀ j o, (∀ cs, o ≠ AO.cells cs) → H j = some o → H' j = some o := fun j o ho e => by
    rw [hh j fun hj => ?_]; exact e
    subst hj
    rw [h.top] at e
    injection e with e
    exact ho _ e.symm
  refine ⟨ht, hr _ _ (fun cs e => by unfold mapA at e; cases e) h.now, hr _ _ (fun cs e => by unfold mapA at e; cases e) h.last, h.ne, fun i x hx => ?_, h.finj, h.rinj, h.wait.keep (fun j _ _ e => hr j _ (fun cs e => by cases e) e) (fun j cs _ hl e => hc j cs (by omega) e) (fun _ hs => hs), h.Sp, h.Sn, h.Sl, h.Sf⟩
  obtain ⟨bv, h1, h2⟩ := h.file i x hx
  refine ⟨bv, hc _ _ (by simp) h1, ?_⟩
  rcases h2 with h2 | ⟨h2, h3⟩
  · exact .inl h2
  · exact .inr ⟨h2, hr _ _ (fun cs e => by cases e) h3⟩
/-- It names a file that is there, and a name that is one. -/
def ChD.fits (k : Nat) : ChD → Prop
  | .new n i => i < k ∧ nameB n = true
  | .ren _ t i => i < k ∧ nameB t = true
  | .rem _ => True
/-- What holds of every directory. -/
structure FsOk (d : FsD) : Prop where
  room : 0 ≤ d.room ∧ d.room ≤ 1073741824
  nowOk : MapOk d.now.1 d.now.2
  lastOk : MapOk d.last.1 d.last.2
  nowI : ∀ e ∈ d.now.1, e.val < d.files.length ∧ nameB e.key = true
  lastI : ∀ e ∈ d.last.1, e.val < d.files.length ∧ nameB e.key = true
  waitI : ∀ c ∈ d.wait, c.fits d.files.length
  replay : d.now = d.wait.foldl (fun s c => c.app s) d.last
  few : ∀ k, ((d.wait.take k).foldl (fun s c => c.app s) d.last).1.length ≤ 400
  len : ∀ (i : Nat) (x : FileD), d.files[i]? = some x → x.b.length ≤ 1048576 ∧ x.last ≤ x.b.length
  left : d.armed = true → 0 ≤ d.left ∧ d.left < 9223372036854775808
theorem FsOk.nowL {d : FsD} (h : FsOk d) : d.now.1.length ≤ 400 := by
  have := h.few d.wait.length
  rw [List.take_length, ← h.replay] at this; exact this
theorem FsOk.lastL {d : FsD} (h : FsOk d) : d.last.1.length ≤ 400 := h.few 0
theorem nameB_size {s : ByteArray} (h : nameB s = true) : s.size ≤ 24 := by
  unfold nameB at h
  simp only [Bool.and_eq_true, decide_eq_true_eq] at h
  exact h.1.2
theorem FsOk.look {d : FsD} (h : FsOk d) {n : ByteArray} {i : Nat} (hl : lookE d.now.1 n = some i) : i < d.files.length := by
  obtain ⟨x, hx, _, rfl⟩ := lookE_mem hl
  exact (h.nowI x hx).1
end Go.Proofs.YtjmafbdakalknaaDoor
