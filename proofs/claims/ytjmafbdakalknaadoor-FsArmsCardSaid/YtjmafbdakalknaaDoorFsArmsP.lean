/- Chapter 7's statement FsArms: the plain law, no program in sight. -/
import Derived.Test.YtjmafbdakalknaaDoorFsC
import Derived.Test.YtjmafbdakalknaaDoorFsCutsP
set_option linter.unusedVariables false
namespace Go.Proofs.YtjmafbdakalknaaDoor
open Go Go.RowKit Hv
structure ArmB (k : Nat) (d : FsD) : Prop where
  now : d.now = ([⟨nA, 0, 0⟩], 1)
  room : d.room = 1048576
  armed : d.armed = true
  wait : d.wait.length ≤ 1
  one : d.files.length = 1
  len : (d.file 0).b.length ≤ k
/-- Behind k changes of n that are allowed. -/
structure ArmI (n k : Nat) (d : FsD) : Prop where
  base : ArmB k d
  pow : (k ≤ n ∧ d.off = false ∧ d.left = (n : Int) - k) ∨ (n < k ∧ d.off = true)
theorem arm_start {n : Nat} : ArmI n 0 ((oneW ⟨[], 0⟩).arm n) :=
  ⟨⟨rfl, rfl, by show decide ((0 : Int) ≤ n) = true; rw [decide_eq_true_eq]; omega, Nat.le_refl _, rfl, Nat.le_refl _⟩, .inl ⟨Nat.zero_le _, rfl, by show (n : Int) = n - (0 : Nat); omega⟩⟩
theorem ArmB.find {k : Nat} {d : FsD} (h : ArmB k d) : d.find nA = (0, some 0) := by
  unfold FsD.find
  rw [h.now]
  kernel_rfl
theorem ArmB.used {k : Nat} {d : FsD} (h : ArmB k d) : d.used = (d.file 0).b.length := by
  unfold FsD.used
  rw [h.now]
  show (d.file 0).b.length + 0 = _
  omega
theorem ArmI.chg {n k : Nat} {d : FsD} (h : ArmI n k d) : (k < n → d.chg = ({ d with left := d.left - 1 }, 0)) ∧ (n ≤ k → d.chg = ({ d with off := true }, 4)) := by
  have ha := h.base.armed
  refine ⟨fun hk => ?_, fun hk => ?_⟩
  · rcases h.pow with ⟨h1, h2, h3⟩ | ⟨h1, h2⟩
    · have hz : (d.left == 0) = false := by rw [beq_eq_false_iff_ne]; omega
      unfold FsD.chg
      rw [ha, h2, hz]; rfl
    · omega
  · unfold FsD.chg
    rcases h.pow with ⟨h1, h2, h3⟩ | ⟨h1, h2⟩
    · have hz : (d.left == 0) = true := by rw [beq_iff_eq]; omega
      rw [ha, h2, hz]; rfl
    · rw [h2]; rfl
theorem arm_step {n k : Nat} {d : FsD} (h : ArmI n k d) {g : FsD → FsD} {r : FsD × Int} (hr : r = if d.chg.2 ≠ 0 then d.chg else (g d.chg.1, 0)) (hg : ArmB (k + 1) (g { d with left := d.left - 1 }) ∧ (g { d with left := d.left - 1 }).off = d.off ∧ (g { d with left := d.left - 1 }).left = d.left - 1) :
    ArmI n (k + 1) r.1 ∧ r.2 = (if k < n then 0 else 4) := by
  have hc := h.chg
  by_cases hk : k < n
  · rw [hc.1 hk] at hr
    have hr : r = (g { d with left := d.left - 1 }, 0) := hr
    subst hr
    rw [if_pos hk]
    refine ⟨⟨hg.1, .inl ⟨hk, ?_, ?_⟩⟩, rfl⟩
    · show (g { d with left := d.left - 1 }).off = false
      rw [hg.2.1]
      rcases h.pow with h1 | h1
      · exact h1.2.1
      · omega
    · show (g { d with left := d.left - 1 }).left = _
      rw [hg.2.2]
      rcases h.pow with h1 | h1
      · rw [h1.2.2]; omega
      · omega
  · rw [hc.2 (by omega)] at hr
    have hr : r = ({ d with off := true }, 4) := hr
    subst hr
    rw [if_neg hk]
    exact ⟨⟨⟨h.base.now, h.base.room, h.base.armed, h.base.wait, h.base.one, Nat.le_succ_of_le h.base.len⟩, .inr ⟨by omega, rfl⟩⟩, rfl⟩
theorem setFile_len {d : FsD} (h : d.files.length = 1) (x : FileD) : ((d.setFile 0 x).file 0) = x := by
  show (d.files.set 0 x)[0]?.getD _ = x
  rw [List.getElem?_set_self (by omega)]; rfl
theorem arm_append {n k : Nat} {d : FsD} (h : ArmI n k d) (hk : k ≤ 60) : ArmI n (k + 1) (d.append nA [120]).1 ∧ (d.append nA [120]).2 = (if k < n then 0 else 4) := by
  refine arm_step h (g := fun e => e.setFile 0 ⟨(d.file 0).b ++ [120], (d.file 0).last⟩) ?_ ⟨⟨h.base.now, h.base.room, h.base.armed, h.base.wait, ?_, ?_⟩, rfl, rfl⟩
  · have hl := h.base.len
    unfold FsD.append
    rw [h.base.find]
    show (if 1048576 < (d.file 0).b.length + 1 then _ else _) = _
    rw [if_neg (by omega), h.base.used, h.base.room, if_neg (by show ¬ (1048576 : Int) < _ + ((1 : Nat) : Int); omega)]
  · show (d.files.set 0 _).length = 1
    rw [List.length_set]; exact h.base.one
  · rw [setFile_len (d := { d with left := d.left - 1 }) h.base.one]
    show ((d.file 0).b ++ [120]).length ≤ k + 1
    rw [List.length_append]; exact Nat.succ_le_succ h.base.len
theorem arm_sync {n k : Nat} {d : FsD} (h : ArmI n k d) : ArmI n (k + 1) (d.sync nA).1 ∧ (d.sync nA).2 = (if k < n then 0 else 4) := by
  refine arm_step h (g := fun e => e.setFile 0 ⟨(d.file 0).b, (d.file 0).b.length⟩) ?_ ⟨⟨h.base.now, h.base.room, h.base.armed, h.base.wait, ?_, ?_⟩, rfl, rfl⟩
  · unfold FsD.sync
    rw [h.base.find]
  · show (d.files.set 0 _).length = 1
    rw [List.length_set]; exact h.base.one
  · rw [setFile_len (d := { d with left := d.left - 1 }) h.base.one]
    exact Nat.le_succ_of_le h.base.len
theorem arm_syncDir {n k : Nat} {d : FsD} (h : ArmI n k d) : ArmI n (k + 1) d.syncDir.1 ∧ d.syncDir.2 = (if k < n then 0 else 4) := by
  refine arm_step h (g := fun e => { e with last := e.now, wait := [] }) rfl ⟨⟨h.base.now, h.base.room, h.base.armed, Nat.zero_le _, h.base.one, Nat.le_succ_of_le h.base.len⟩, rfl, rfl⟩
theorem ArmI.offIs {n k : Nat} {d : FsD} (h : ArmI n (k + 1) d) : d.off = decide (n ≤ k) := by
  rcases h.pow with ⟨h1, h2, _⟩ | ⟨h1, h2⟩
  · rw [h2]; exact (decide_eq_false (by omega)).symm
  · rw [h2]; exact (decide_eq_true (by omega)).symm
theorem ArmI.sizeIs {n k : Nat} {d : FsD} (h : ArmI n (k + 1) d) : (d.size nA).2 = if k < n then 0 else 4 := by
  unfold FsD.size
  rw [h.base.find]
  show (if d.asks ≠ 0 then ((0 : Int), d.asks) else _).2 = _
  unfold FsD.asks
  rw [h.offIs]
  by_cases hk : k < n
  · rw [if_pos hk, decide_eq_false (by omega)]; rfl
  · rw [if_neg hk, decide_eq_true (by omega)]; rfl
theorem crash_on (d : FsD) (picks : List Int) : (d.crash picks).off = false ∧ (d.crash picks).syncDir.2 = 0 := ⟨rfl, rfl⟩
end Go.Proofs.YtjmafbdakalknaaDoor
