/- Chapter 7's statement FsRoom: the plain law, no program in sight. -/
import Derived.Test.YtjmafbdakalknaaDoorFsC
set_option linter.unusedVariables false
namespace Go.Proofs.YtjmafbdakalknaaDoor
open Go Go.RowKit Hv
/-- The power is on, and nothing is armed. -/
structure OnI (room : Int) (d : FsD) : Prop where
  room : d.room = room
  off : d.off = false
  armed : d.armed = false
theorem OnI.chg {room : Int} {d : FsD} (h : OnI room d) : d.chg = (d, 0) := by
  unfold FsD.chg
  rw [h.off, h.armed]; rfl
/-- Two files, a and b, of so many bytes. -/
structure RoomI (room : Int) (a b : Nat) (d : FsD) : Prop where
  on : OnI room d
  is : ∃ i j c1 c2 c, d.now = ([⟨nA, i, c1⟩, ⟨nB, j, c2⟩], c) ∧ i ≠ j ∧ i < d.files.length ∧ j < d.files.length ∧ (d.file i).b.length = a ∧ (d.file j).b.length = b
structure RestI (room : Int) (b : Nat) (d : FsD) : Prop where
  on : OnI room d
  is : ∃ j c2 c, d.now = ([⟨nB, j, c2⟩], c) ∧ j < d.files.length ∧ (d.file j).b.length = b
theorem find_of {d : FsD} {s : ByteArray} {i : Nat} (hn : nameB s = true) (h : lookE d.now.1 s = some i) : d.find s = (0, some i) := by
  unfold FsD.find
  rw [hn, h]; rfl
theorem nA_name : nameB nA = true := by kernel_rfl
theorem nB_name : nameB nB = true := by kernel_rfl
theorem file_set {d : FsD} {i : Nat} (h : i < d.files.length) (x : FileD) : (d.setFile i x).file i = x := by
  show (d.files.set i x)[i]?.getD _ = x
  rw [List.getElem?_set_self h]; rfl
theorem file_set' {d : FsD} {i j : Nat} (h : i ≠ j) (x : FileD) : (d.setFile i x).file j = d.file j := by
  show (d.files.set i x)[j]?.getD _ = _
  rw [List.getElem?_set_ne h]; rfl
theorem RoomI.used {room : Int} {a b : Nat} {d : FsD} (h : RoomI room a b d) : d.used = a + b := by
  obtain ⟨i, j, c1, c2, c, h1, h2, h3, h4, h5, h6⟩ := h.is
  unfold FsD.used
  rw [h1]
  show (d.file i).b.length + ((d.file j).b.length + 0) = _
  omega
theorem RestI.used {room : Int} {b : Nat} {d : FsD} (h : RestI room b d) : d.used = b := by
  obtain ⟨j, c2, c, h1, h4, h6⟩ := h.is
  unfold FsD.used
  rw [h1]
  show (d.file j).b.length + 0 = _
  omega
theorem append_of {d : FsD} {s : ByteArray} {i : Nat} {l : List UInt8} (hf : d.find s = (0, some i)) (hc : d.chg = (d, 0)) (hl : (d.file i).b.length + l.length ≤ 1000000) :
    d.append s l = if d.room < (d.used : Int) + l.length then (d, 5) else (d.setFile i ⟨(d.file i).b ++ l, (d.file i).last⟩, 0) := by
  unfold FsD.append
  rw [hf]
  show (if 1048576 < (d.file i).b.length + l.length then _ else _) = _
  rw [if_neg (by omega), hc]
  split
  · rfl
  · rfl
theorem RoomI.appendA {room : Nat} {a b n : Nat} {d : FsD} {l : List UInt8} (h : RoomI room a b d) (hr : a ≤ 900000) (hn : n ≤ 90000) (hl : l.length = n) :
    (a + b + n ≤ room → (d.append nA l).2 = 0 ∧ RoomI room (a + n) b (d.append nA l).1 ∧ (d.append nA l).1.wait = d.wait) ∧ (¬ a + b + n ≤ room → d.append nA l = (d, 5)) := by
  have hu := h.used
  have hrm := h.on.room
  obtain ⟨i, j, c1, c2, c, h1, h2, h3, h4, h5, h6⟩ := h.is
  have hf : d.find nA = (0, some i) := find_of nA_name (by rw [h1]; kernel_rfl)
  rw [append_of hf h.on.chg (by omega), hu, hrm, hl]
  refine ⟨fun hle => ?_, fun hle => ?_⟩
  · rw [if_neg (by omega)]
    refine ⟨rfl, ⟨⟨hrm, h.on.off, h.on.armed⟩, i, j, c1, c2, c, h1, h2, ?_, ?_, ?_, ?_⟩, rfl⟩
    · show i < (d.files.set i _).length
      rw [List.length_set]; exact h3
    · show j < (d.files.set i _).length
      rw [List.length_set]; exact h4
    · rw [file_set h3]
      show ((d.file i).b ++ l).length = _
      rw [List.length_append]; omega
    · rw [file_set' h2]; exact h6
  · rw [if_pos (by omega)]
theorem RoomI.appendB {room : Nat} {a b n : Nat} {d : FsD} {l : List UInt8} (h : RoomI room a b d) (hr : b ≤ 900000) (hn : n ≤ 90000) (hl : l.length = n) :
    (a + b + n ≤ room → (d.append nB l).2 = 0 ∧ RoomI room a (b + n) (d.append nB l).1 ∧ (d.append nB l).1.wait = d.wait) ∧ (¬ a + b + n ≤ room → d.append nB l = (d, 5)) := by
  have hu := h.used
  have hrm := h.on.room
  obtain ⟨i, j, c1, c2, c, h1, h2, h3, h4, h5, h6⟩ := h.is
  have hf : d.find nB = (0, some j) := find_of nB_name (by rw [h1]; kernel_rfl)
  rw [append_of hf h.on.chg (by omega), hu, hrm, hl]
  refine ⟨fun hle => ?_, fun hle => ?_⟩
  · rw [if_neg (by omega)]
    refine ⟨rfl, ⟨⟨hrm, h.on.off, h.on.armed⟩, i, j, c1, c2, c, h1, h2, ?_, ?_, ?_, ?_⟩, rfl⟩
    · show i < (d.files.set j _).length
      rw [List.length_set]; exact h3
    · show j < (d.files.set j _).length
      rw [List.length_set]; exact h4
    · rw [file_set' (Ne.symm h2)]; exact h5
    · rw [file_set h4]
      show ((d.file j).b ++ l).length = _
      rw [List.length_append]; omega
  · rw [if_pos (by omega)]
/-- b is put over a, and made anew. -/
theorem RoomI.turn {room : Int} {a b : Nat} {d : FsD} (h : RoomI room a b d) : (d.rename nB nA).2 = 0 ∧ ((d.rename nB nA).1.create nB).2 = 0 ∧ RoomI room b 0 ((d.rename nB nA).1.create nB).1 ∧ (d.rename nB nA).1.wait.length = d.wait.length + 1 ∧ ((d.rename nB nA).1.create nB).1.wait.length = d.wait.length + 2 := by
  obtain ⟨i, j, c1, c2, c, h1, h2, h3, h4, h5, h6⟩ := h.is
  have hf : d.find nB = (0, some j) := find_of nB_name (by rw [h1]; kernel_rfl)
  have e1 : d.rename nB nA = (d.doit (.ren nB nA j), 0) := by
    unfold FsD.rename
    rw [nA_name, hf, h.on.chg]
    rfl
  have e2 : ChD.app (.ren nB nA j) d.now = ([⟨nA, j, c1⟩], c) := by rw [h1]; kernel_rfl
  rw [e1]
  have e3 : d.doit (.ren nB nA j) = { d with now := ([⟨nA, j, c1⟩], c), wait := d.wait ++ [.ren nB nA j] } := by unfold FsD.doit; rw [e2]
  rw [e3]
  obtain ⟨d1, hd1⟩ : ∃ d1, ({ d with now := ([⟨nA, j, c1⟩], c), wait := d.wait ++ [.ren nB nA j] } : FsD) = d1 := ⟨_, rfl⟩
  have on1 : OnI room d1 := by subst hd1; exact ⟨h.on.room, h.on.off, h.on.armed⟩
  have n1 : d1.now = ([⟨nA, j, c1⟩], c) := by subst hd1; rfl
  have w1 : d1.wait.length = d.wait.length + 1 := by subst hd1; show (d.wait ++ _).length = _; rw [List.length_append]; rfl
  have f1 : d1.files = d.files := by subst hd1; rfl
  rw [show (({ d with now := ([⟨nA, j, c1⟩], c), wait := d.wait ++ [.ren nB nA j] } : FsD), (0 : Int)).1 = d1 from hd1]
  have g1 : d1.find nB = (7, none) := by
    unfold FsD.find
    rw [nB_name, n1]
    kernel_rfl
  have e4 : d1.create nB = (({ d1 with files := d1.files ++ [⟨[], 0⟩] } : FsD).doit (.new nB d1.files.length), 0) := by
    unfold FsD.create
    rw [g1, on1.chg]
    have hl : ¬ 400 ≤ d1.now.1.length := by rw [n1]; exact of_decide_eq_true rfl
    show (if 400 ≤ d1.now.1.length then (d1, (14 : Int)) else _) = _
    rw [if_neg hl]
    rfl
  have e5 : ChD.app (.new nB d1.files.length) ([⟨nA, j, c1⟩], c) = ([⟨nA, j, c1⟩, ⟨nB, d1.files.length, c⟩], c + 1) := by kernel_rfl
  rw [e4]
  refine ⟨rfl, rfl, ⟨⟨on1.room, on1.off, on1.armed⟩, j, d1.files.length, c1, c, c + 1, ?_, ?_, ?_, ?_, ?_, ?_⟩, w1, ?_⟩
  · show ChD.app (.new nB d1.files.length) d1.now = _
    rw [n1, e5]
  · rw [f1]; omega
  · show j < (d1.files ++ _).length
    rw [List.length_append, f1]; exact Nat.lt_add_right _ h4
  · show d1.files.length < (d1.files ++ _).length
    rw [List.length_append]; exact Nat.lt_succ_self _
  · show ((d1.files ++ [(⟨[], 0⟩ : FileD)])[j]?.getD (⟨[], 0⟩ : FileD)).b.length = b
    rw [List.getElem?_append_left (by rw [f1]; exact h4), f1]; exact h6
  · show ((d1.files ++ [(⟨[], 0⟩ : FileD)])[d1.files.length]?.getD (⟨[], 0⟩ : FileD)).b.length = 0
    rw [List.getElem?_append_right (Nat.le_refl _), Nat.sub_self]; rfl
  · show (d1.wait ++ _).length = _
    rw [List.length_append, w1]; rfl
theorem RoomI.removeA {room : Int} {a b : Nat} {d : FsD} (h : RoomI room a b d) : (d.remove nA).2 = 0 ∧ RestI room b (d.remove nA).1 := by
  obtain ⟨i, j, c1, c2, c, h1, h2, h3, h4, h5, h6⟩ := h.is
  have hf : d.find nA = (0, some i) := find_of nA_name (by rw [h1]; kernel_rfl)
  have e1 : d.remove nA = (d.doit (.rem nA), 0) := by
    unfold FsD.remove
    rw [hf, h.on.chg]
    rfl
  have e2 : ChD.app (.rem nA) d.now = ([⟨nB, j, c2⟩], c) := by rw [h1]; kernel_rfl
  rw [e1]
  exact ⟨rfl, ⟨h.on.room, h.on.off, h.on.armed⟩, j, c2, c, e2, h4, h6⟩
theorem RestI.appendB {room : Nat} {b n : Nat} {d : FsD} {l : List UInt8} (h : RestI room b d) (hr : b ≤ 900000) (hn : n ≤ 90000) (hl : l.length = n) :
    (b + n ≤ room → (d.append nB l).2 = 0 ∧ RestI room (b + n) (d.append nB l).1) ∧ (¬ b + n ≤ room → (d.append nB l).2 = 5) := by
  have hu := h.used
  have hrm := h.on.room
  obtain ⟨j, c2, c, h1, h4, h6⟩ := h.is
  have hf : d.find nB = (0, some j) := find_of nB_name (by rw [h1]; kernel_rfl)
  rw [append_of hf h.on.chg (by omega), hu, hrm, hl]
  refine ⟨fun hle => ?_, fun hle => ?_⟩
  · rw [if_neg (by omega)]
    refine ⟨rfl, ⟨hrm, h.on.off, h.on.armed⟩, j, c2, c, h1, ?_, ?_⟩
    · show j < (d.files.set j _).length
      rw [List.length_set]; exact h4
    · rw [file_set h4]
      show ((d.file j).b ++ l).length = _
      rw [List.length_append]; omega
  · rw [if_pos (by omega)]
/-- Behind the first two calls. -/
theorem room_start {room : Nat} : ((fsNew room).create nA).2 = 0 ∧ (((fsNew room).create nA).1.create nB).2 = 0 ∧ RoomI room 0 0 (((fsNew room).create nA).1.create nB).1 ∧ ((fsNew room).create nA).1.wait.length = 1 ∧ (((fsNew room).create nA).1.create nB).1.wait.length = 2 := by
  have e1 : (fsNew room).create nA = (⟨room, [⟨[], 0⟩], ([⟨nA, 0, 0⟩], 1), ([], 0), [.new nA 0], false, false, 0⟩, 0) := by kernel_rfl
  rw [e1]
  have e2 : (⟨room, [⟨[], 0⟩], ([⟨nA, 0, 0⟩], 1), ([], 0), [.new nA 0], false, false, 0⟩ : FsD).create nB = (⟨room, [⟨[], 0⟩, ⟨[], 0⟩], ([⟨nA, 0, 0⟩, ⟨nB, 1, 1⟩], 2), ([], 0), [.new nA 0, .new nB 1], false, false, 0⟩, 0) := by kernel_rfl
  rw [e2]
  exact ⟨rfl, rfl, ⟨⟨rfl, rfl, rfl⟩, 0, 1, 0, 1, 2, rfl, by decide, Nat.zero_lt_succ 1, Nat.lt_succ_self 1, rfl, rfl⟩, rfl, rfl⟩
end Go.Proofs.YtjmafbdakalknaaDoor
