/- Files that a crash may cut: what holds of a directory stays so; plain. -/
import Derived.Test.YtjmafbdakalknaaDoorFsDo
set_option linter.unusedVariables false
set_option linter.unusedSimpArgs false
namespace Go.Proofs.YtjmafbdakalknaaDoor
open Go Go.RowKit Hv
theorem FsOk.congr {d d' : FsD} (h : FsOk d) (h1 : d'.room = d.room) (h2 : d'.files = d.files) (h3 : d'.now = d.now) (h4 : d'.last = d.last) (h5 : d'.wait = d.wait) (h6 : d'.armed = true → 0 ≤ d'.left ∧ d'.left < 9223372036854775808) : FsOk d' := by
  obtain ⟨r, f, n, l, w, o, a, t⟩ := d
  obtain ⟨r', f', n', l', w', o', a', t'⟩ := d'
  simp only at h1 h2 h3 h4 h5
  subst h1 h2 h3 h4 h5
  exact ⟨h.room, h.nowOk, h.lastOk, h.nowI, h.lastI, h.waitI, h.replay, h.few, h.len, h6⟩
theorem chg_cases (d : FsD) : (d.chg.2 = 4 ∧ d.chg.1 = { d with off := true }) ∨ (d.chg.2 = 0 ∧ d.off = false ∧ ((d.armed = false ∧ d.chg.1 = d) ∨ (d.armed = true ∧ d.left ≠ 0 ∧ d.chg.1 = { d with left := d.left - 1 }))) := by
  unfold FsD.chg
  split
  · exact .inl ⟨rfl, rfl⟩
  · rename_i h
    have ho : d.off = false := by
      cases h' : d.off with
      | true => rw [h'] at h; simp at h
      | false => rfl
    split
    · rename_i ha
      refine .inr ⟨rfl, ho, .inr ⟨ha, ?_, rfl⟩⟩
      intro hz
      rw [ho, ha, hz] at h; simp at h
    · rename_i ha
      exact .inr ⟨rfl, ho, .inl ⟨by simpa using ha, rfl⟩⟩
theorem chg_ok {d : FsD} (h : FsOk d) : FsOk d.chg.1 := by
  rcases chg_cases d with ⟨_, e⟩ | ⟨_, _, ⟨_, e⟩ | ⟨ha, hz, e⟩⟩
  · rw [e]; exact h.congr rfl rfl rfl rfl rfl h.left
  · rw [e]; exact h
  · rw [e]
    exact h.congr rfl rfl rfl rfl rfl fun _ => by have := h.left ha; show 0 ≤ d.left - 1 ∧ d.left - 1 < _; omega
theorem chg_same (d : FsD) : d.chg.1.room = d.room ∧ d.chg.1.files = d.files ∧ d.chg.1.now = d.now ∧ d.chg.1.last = d.last ∧ d.chg.1.wait = d.wait := by
  rcases chg_cases d with ⟨_, e⟩ | ⟨_, _, ⟨_, e⟩ | ⟨ha, hz, e⟩⟩ <;> rw [e] <;> exact ⟨rfl, rfl, rfl, rfl, rfl⟩
theorem mem_put {es : List NmE} {c : Nat} {k : ByteArray} {v : Nat} {x : NmE} (h : x ∈ (putE es c k v).1) : x ∈ es ∨ (x.key = k ∧ x.val = v) := by
  rcases find_cases es k with ⟨h1, h2, _⟩ | ⟨i, y, h1, h2, _⟩
  · rw [put_new v h2] at h
    rcases List.mem_append.1 h with h | h
    · exact .inl h
    · rw [List.mem_singleton] at h; subst h; exact .inr ⟨rfl, rfl⟩
  · rw [put_old v h1 h2] at h
    rcases List.mem_or_eq_of_mem_set h with h | h
    · exact .inl h
    · subst h; exact .inr ⟨rfl, rfl⟩
theorem mem_del {es : List NmE} {k : ByteArray} {x : NmE} (h : x ∈ delE es k) : x ∈ es := by
  unfold delE at h
  split at h
  · exact List.mem_of_mem_eraseIdx h
  · exact h
theorem del_len (es : List NmE) (k : ByteArray) : (delE es k).length ≤ es.length := by
  rw [len_del]; split <;> omega
theorem put_len (es : List NmE) (c : Nat) (k : ByteArray) (v : Nat) : (putE es c k v).1.length ≤ es.length + 1 := by
  rw [len_put]; split <;> omega
theorem app_ok {c : ChD} {d : DirD} (h : MapOk d.1 d.2) : MapOk (c.app d).1 (c.app d).2 := by
  cases c with
  | new n i => exact h.put n i
  | ren s t i => exact (h.del s).put t i
  | rem n => exact h.del n
theorem app_mem {c : ChD} {d : DirD} {k : Nat} (hc : c.fits k) (h : ∀ e ∈ d.1, e.val < k ∧ nameB e.key = true) : ∀ e ∈ (c.app d).1, e.val < k ∧ nameB e.key = true := by
  intro e he
  cases c with
  | new n i =>
    rcases mem_put he with he | ⟨h1, h2⟩
    · exact h e he
    · rw [h1, h2]; exact hc
  | ren s t i =>
    rcases mem_put he with he | ⟨h1, h2⟩
    · exact h e (mem_del he)
    · rw [h1, h2]; exact hc
  | rem n => exact h e (mem_del he)
theorem ChD.fits_mono {k k' : Nat} {c : ChD} (h : c.fits k) (hk : k ≤ k') : c.fits k' := by
  cases c with
  | new n i => exact ⟨Nat.lt_of_lt_of_le h.1 hk, h.2⟩
  | ren s t i => exact ⟨Nat.lt_of_lt_of_le h.1 hk, h.2⟩
  | rem n => trivial
theorem addFile_ok {d : FsD} (h : FsOk d) : FsOk { d with files := d.files ++ [⟨[], 0⟩] } := by
  refine ⟨h.room, h.nowOk, h.lastOk, fun e he => ?_, fun e he => ?_, fun c hc => ChD.fits_mono (h.waitI c hc) (by rw [List.length_append]; omega), h.replay, h.few, fun i x hx => ?_, h.left⟩
  · have := h.nowI e he; exact ⟨by rw [List.length_append]; omega, this.2⟩
  · have := h.lastI e he; exact ⟨by rw [List.length_append]; omega, this.2⟩
  · by_cases hlt : i < d.files.length
    · rw [List.getElem?_append_left hlt] at hx; exact h.len i x hx
    · rw [List.getElem?_append_right (by omega)] at hx
      have := List.mem_of_getElem? hx
      rw [List.mem_singleton] at this
      subst this
      exact ⟨Nat.zero_le _, Nat.le_refl _⟩
theorem setFile_ok {d : FsD} (h : FsOk d) (i : Nat) {x : FileD} (hx : x.b.length ≤ 1048576 ∧ x.last ≤ x.b.length) : FsOk (d.setFile i x) := by
  have hl : (d.files.set i x).length = d.files.length := List.length_set ..
  refine ⟨h.room, h.nowOk, h.lastOk, fun e he => ?_, fun e he => ?_, fun c hc => ChD.fits_mono (h.waitI c hc) (by show _ ≤ (d.files.set i x).length; omega), h.replay, h.few, fun j y hy => ?_, h.left⟩
  · have := h.nowI e he; exact ⟨by show _ < (d.files.set i x).length; omega, this.2⟩
  · have := h.lastI e he; exact ⟨by show _ < (d.files.set i x).length; omega, this.2⟩
  · have hy' : (d.files.set i x)[j]? = some y := hy
    rcases List.mem_or_eq_of_mem_set (List.mem_of_getElem? hy') with hm | he
    · obtain ⟨k, hk⟩ := List.mem_iff_getElem?.1 hm
      exact h.len k y hk
    · subst he; exact hx
theorem doit_ok {d : FsD} (h : FsOk d) {c : ChD} (hc : c.fits d.files.length) (hl : (c.app d.now).1.length ≤ 400) : FsOk (d.doit c) := by
  refine ⟨h.room, app_ok h.nowOk, h.lastOk, app_mem hc h.nowI, h.lastI, fun c' hc' => ?_, ?_, fun k => ?_, h.len, h.left⟩
  · rcases List.mem_append.1 hc' with hc' | hc'
    · exact h.waitI c' hc'
    · rw [List.mem_singleton] at hc'; subst hc'; exact hc
  · show c.app d.now = (d.wait ++ [c]).foldl _ d.last
    rw [List.foldl_append, ← h.replay]; rfl
  · show (((d.wait ++ [c]).take k).foldl _ d.last).1.length ≤ 400
    by_cases hk : k ≤ d.wait.length
    · rw [List.take_append_of_le_length hk]; exact h.few k
    · rw [List.take_of_length_le (by rw [List.length_append]; simp only [List.length_cons, List.length_nil]; omega), List.foldl_append, ← h.replay]
      exact hl
theorem sync_ok {d : FsD} (h : FsOk d) : FsOk { d with last := d.now, wait := [] } := by
  refine ⟨h.room, h.nowOk, h.nowOk, h.nowI, h.nowI, fun c hc => absurd hc List.not_mem_nil, rfl, fun k => ?_, h.len, h.left⟩
  rw [List.take_nil]; exact h.nowL
end Go.Proofs.YtjmafbdakalknaaDoor
