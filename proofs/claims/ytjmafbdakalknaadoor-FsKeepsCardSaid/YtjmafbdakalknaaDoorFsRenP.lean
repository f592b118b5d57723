/- Chapter 7's statement FsRenames: the plain law, no program in sight. -/
import Derived.Test.YtjmafbdakalknaaDoorFsC
set_option linter.unusedVariables false
namespace Go.Proofs.YtjmafbdakalknaaDoor
open Go Go.RowKit Hv
/-- A file that was synced stays as it is. -/
theorem cutAll_sure (now : List NmE) (ns : List ByteArray) (fs : List FileD) (picks : List Int) {i : Nat} {b : List UInt8} (h : fs[i]? = some ⟨b, b.length⟩) : (FsD.cutAll now ns fs picks)[i]? = some ⟨b, b.length⟩ := by
  have hc := cutAll_all (fun j x => j = i → x = ⟨b, b.length⟩) (fun j x p hx hj => by
    rw [hx hj]
    have hm : p % (b.length - b.length + 1) = 0 := by rw [Nat.sub_self]; exact Nat.mod_one p
    have e : (FsD.cutFile ⟨b, b.length⟩ p).b = b := by
      show (if p % 2 = 1 ∧ 0 < p % (b.length - b.length + 1) then FsD.spoil (b.take (b.length + p % (b.length - b.length + 1))) else b.take (b.length + p % (b.length - b.length + 1))) = b
      rw [hm, if_neg (by omega), Nat.add_zero, List.take_length]
    have e2 : FsD.cutFile ⟨b, b.length⟩ p = ⟨(FsD.cutFile ⟨b, b.length⟩ p).b, (FsD.cutFile ⟨b, b.length⟩ p).b.length⟩ := rfl
    exact e2.trans (by rw [e])) now ns fs picks (fun j x hx hj => by subst hj; rw [h] at hx; injection hx with hx; exact hx.symm)
  have hlt : i < (FsD.cutAll now ns fs picks).length := by rw [hc.1]; exact (List.getElem?_eq_some_iff.1 h).1
  rw [List.getElem?_eq_getElem hlt]
  exact congrArg some (hc.2 i _ (List.getElem?_eq_getElem hlt) rfl)
theorem read_of {d : FsD} {s : ByteArray} {i : Nat} {x : FileD} (hn : nameB s = true) (h : lookE d.now.1 s = some i) (hf : d.files[i]? = some x) (ho : d.off = false) (hl : x.b.length ≤ 1048576) : d.read s 0 1048576 = (x.b, 0) := by
  unfold FsD.read FsD.find
  rw [hn, h]
  have hx : d.file i = x := by unfold FsD.file; rw [hf]; rfl
  show (if (0 : Int) < 0 ∨ (1048576 : Int) < 0 ∨ ((d.file i).b.length : Int) < 0 then _ else if d.asks ≠ 0 then _ else _) = _
  rw [if_neg (by omega), if_neg (by unfold FsD.asks; rw [ho]; exact fun h => h rfl), hx]
  show ((x.b.drop 0).take 1048576, (0 : Int)) = _
  rw [List.drop_zero, List.take_of_length_le hl]
/-- A name that lasts, or that waits, for a file that was synced, is read behind the crash. -/
theorem crash_read {d : FsD} {s : ByteArray} {i : Nat} {b : List UInt8} (picks : List Int) (hn : nameB s = true) (h : lookE (lastK d ((FsD.next picks).1 % (d.wait.length + 1))).1 s = some i) (hf : d.files[i]? = some ⟨b, b.length⟩) (hl : b.length ≤ 1048576) : (d.crash picks).read s 0 1048576 = (b, 0) :=
  read_of (x := ⟨b, b.length⟩) hn h (cutAll_sure _ _ _ _ hf) rfl hl
def nCur : ByteArray := ⟨#[99, 117, 114, 114, 101, 110, 116]⟩
def nTmp : ByteArray := ⟨#[116, 109, 112]⟩
theorem nCur_name : nameB nCur = true := by kernel_rfl
theorem nTmp_name : nameB nTmp = true := by kernel_rfl
section
variable (old fresh : List UInt8) (off : Bool) (l : Int)
/-- The old file, that lasts. -/
def curD (x : FileD) (armed : Bool) : FsD := ⟨1048576, [x], ([⟨nCur, 0, 0⟩], 1), ([⟨nCur, 0, 0⟩], 1), [], off, armed, l⟩
def curW (x : FileD) : FsD := ⟨1048576, [x], ([⟨nCur, 0, 0⟩], 1), ([], 0), [.new nCur 0], false, false, 0⟩
/-- Behind the first call, the second, the third (x: the other file). -/
def renD (x : FileD) : FsD := ⟨1048576, [⟨old, old.length⟩, x], ([⟨nCur, 0, 0⟩, ⟨nTmp, 1, 1⟩], 2), ([⟨nCur, 0, 0⟩], 1), [.new nTmp 1], off, true, l⟩
/-- Behind the fourth. -/
def renE : FsD := ⟨1048576, [⟨old, old.length⟩, ⟨fresh, fresh.length⟩], ([⟨nCur, 1, 0⟩], 2), ([⟨nCur, 0, 0⟩], 1), [.new nTmp 1, .ren nTmp nCur 1], off, true, l⟩
/-- Behind all. -/
def renF : FsD := ⟨1048576, [⟨old, old.length⟩, ⟨fresh, fresh.length⟩], ([⟨nCur, 1, 0⟩], 2), ([⟨nCur, 1, 0⟩], 2), [], off, true, l⟩
end
section
variable {old fresh : List UInt8}
theorem ren0 : (fsNew 1048576).create nCur = (curW ⟨[], 0⟩, 0) := by kernel_rfl
theorem append_at {d : FsD} {s : ByteArray} {i : Nat} {b : List UInt8} (hf : d.find s = (0, some i)) (hc : d.chg = (d, 0)) (hu : (d.used : Int) + b.length ≤ d.room) (hl : (d.file i).b.length + b.length ≤ 1000000) : d.append s b = (d.setFile i ⟨(d.file i).b ++ b, (d.file i).last⟩, 0) := by
  unfold FsD.append
  rw [hf]
  show (if 1048576 < (d.file i).b.length + b.length then _ else _) = _
  rw [if_neg (by omega), if_neg (by omega), hc]
  exact if_neg fun h => h rfl
theorem ren1 (h : old.length ≤ 3000) : (curW ⟨[], 0⟩).append nCur old = (curW ⟨old, 0⟩, 0) := by
  have e : (curW ⟨[], 0⟩).append nCur old = ((curW ⟨[], 0⟩).setFile 0 ⟨[] ++ old, 0⟩, 0) := append_at (i := 0) (by kernel_rfl) (by kernel_rfl) (by show (0 : Int) + _ ≤ 1048576; omega) (by show 0 + _ ≤ _; omega)
  rw [e]; rfl
theorem ren2 : (curW ⟨old, 0⟩).sync nCur = (curW ⟨old, old.length⟩, 0) := by kernel_rfl
theorem ren3 (x : FileD) : (curW x).syncDir = (curD false 0 x false, 0) := rfl
theorem ren4 (x : FileD) {l : Int} (h : 0 ≤ l) : (curD false 0 x false).arm l = curD false l x true := by
  show ({ curD false 0 x false with armed := decide (0 ≤ l), left := l } : FsD) = _
  rw [decide_eq_true h]; rfl
/-! Each of the five calls, with the power on, and where it goes. -/
theorem chg_on {d : FsD} (ho : d.off = false) (ha : d.armed = true) {l : Int} (hl : d.left = l) (h : l ≠ 0) : d.chg = ({ d with left := l - 1 }, 0) := by
  unfold FsD.chg
  rw [ho, ha, hl, beq_eq_false_iff_ne.2 h]; rfl
theorem chg_off {d : FsD} (ho : d.off = false) (ha : d.armed = true) (hl : d.left = 0) : d.chg = ({ d with off := true }, 4) := by
  unfold FsD.chg
  rw [ho, ha, hl]; rfl
theorem step1 {l : Int} (h : l ≠ 0) : (curD false l ⟨old, old.length⟩ true).create nTmp = (renD old false (l - 1) ⟨[], 0⟩, 0) := by
  have hf : (curD false l ⟨old, old.length⟩ true).find nTmp = (7, none) := by kernel_rfl
  unfold FsD.create
  rw [hf, chg_on (d := curD false l ⟨old, old.length⟩ true) rfl rfl rfl h]
  rfl
theorem step1' : (curD false 0 ⟨old, old.length⟩ true).create nTmp = (curD true 0 ⟨old, old.length⟩ true, 4) := by kernel_rfl
theorem step2 {l : Int} (h : l ≠ 0) (hl : old.length ≤ 3000 ∧ fresh.length ≤ 3000) : (renD old false l ⟨[], 0⟩).append nTmp fresh = (renD old false (l - 1) ⟨fresh, 0⟩, 0) := by
  have hf : (renD old false l ⟨[], 0⟩).find nTmp = (0, some 1) := by kernel_rfl
  have hu : (renD old false l ⟨[], 0⟩).used = old.length := by show old.length + (0 + 0) = _; omega
  unfold FsD.append
  rw [hf, chg_on (d := renD old false l ⟨[], 0⟩) rfl rfl rfl h, hu]
  show (if 1048576 < 0 + fresh.length then _ else if (1048576 : Int) < old.length + fresh.length then _ else _) = _
  rw [if_neg (by omega), if_neg (by omega)]
  rfl
theorem step2' (hl : old.length ≤ 3000 ∧ fresh.length ≤ 3000) : (renD old false 0 ⟨[], 0⟩).append nTmp fresh = (renD old true 0 ⟨[], 0⟩, 4) := by
  have hf : (renD old false 0 ⟨[], 0⟩).find nTmp = (0, some 1) := by kernel_rfl
  have hu : (renD old false 0 ⟨[], 0⟩).used = old.length := by show old.length + (0 + 0) = _; omega
  unfold FsD.append
  rw [hf, chg_off (d := renD old false 0 ⟨[], 0⟩) rfl rfl rfl, hu]
  show (if 1048576 < 0 + fresh.length then _ else if (1048576 : Int) < old.length + fresh.length then _ else _) = _
  rw [if_neg (by omega), if_neg (by omega)]
  rfl
theorem step3 {l : Int} (h : l ≠ 0) : (renD old false l ⟨fresh, 0⟩).sync nTmp = (renD old false (l - 1) ⟨fresh, fresh.length⟩, 0) := by
  have hf : (renD old false l ⟨fresh, 0⟩).find nTmp = (0, some 1) := by kernel_rfl
  unfold FsD.sync
  rw [hf, chg_on (d := renD old false l ⟨fresh, 0⟩) rfl rfl rfl h]
  rfl
theorem step3' : (renD old false 0 ⟨fresh, 0⟩).sync nTmp = (renD old true 0 ⟨fresh, 0⟩, 4) := by kernel_rfl
theorem step4 {l : Int} (h : l ≠ 0) : (renD old false l ⟨fresh, fresh.length⟩).rename nTmp nCur = (renE old fresh false (l - 1), 0) := by
  have hf : (renD old false l ⟨fresh, fresh.length⟩).find nTmp = (0, some 1) := by kernel_rfl
  unfold FsD.rename
  rw [nCur_name, hf, chg_on (d := renD old false l ⟨fresh, fresh.length⟩) rfl rfl rfl h]
  rfl
theorem step4' : (renD old false 0 ⟨fresh, fresh.length⟩).rename nTmp nCur = (renD old true 0 ⟨fresh, fresh.length⟩, 4) := by kernel_rfl
theorem step5 {l : Int} (h : l ≠ 0) : (renE old fresh false l).syncDir = (renF old fresh false (l - 1), 0) := by
  unfold FsD.syncDir
  rw [chg_on (d := renE old fresh false l) rfl rfl rfl h]
  rfl
theorem step5' : (renE old fresh false 0).syncDir = (renE old fresh true 0, 4) := by kernel_rfl
/-! Behind the crash. -/
theorem mod2 {a : Nat} : a % 2 = 0 ∨ a % 2 = 1 := by omega
theorem mod3 {a : Nat} : a % 3 = 0 ∨ a % 3 = 1 ∨ a % 3 = 2 := by omega
theorem end1 (picks : List Int) (hl : old.length ≤ 3000) : ((curD true 0 ⟨old, old.length⟩ true).crash picks).read nCur 0 1048576 = (old, 0) :=
  crash_read (i := 0) picks nCur_name (by rw [show (FsD.next picks).1 % ((curD true 0 ⟨old, old.length⟩ true).wait.length + 1) = 0 from Nat.mod_one _]; kernel_rfl) rfl (by omega)
theorem end2 (picks : List Int) (x : FileD) (hl : old.length ≤ 3000) : ((renD old true 0 x).crash picks).read nCur 0 1048576 = (old, 0) := by
  refine crash_read (i := 0) picks nCur_name ?_ rfl (by omega)
  show lookE (lastK (renD old true 0 x) ((FsD.next picks).1 % 2)).1 nCur = some 0
  rcases mod2 (a := (FsD.next picks).1) with h | h <;> rw [h] <;> kernel_rfl
theorem end5 (picks : List Int) (hl : old.length ≤ 3000 ∧ fresh.length ≤ 3000) : ((renE old fresh true 0).crash picks).read nCur 0 1048576 = (old, 0) ∨ ((renE old fresh true 0).crash picks).read nCur 0 1048576 = (fresh, 0) := by
  rcases mod3 (a := (FsD.next picks).1) with h | h | h
  · refine .inl (crash_read (i := 0) picks nCur_name ?_ rfl (by omega))
    show lookE (lastK (renE old fresh true 0) ((FsD.next picks).1 % 3)).1 nCur = some 0
    rw [h]; kernel_rfl
  · refine .inl (crash_read (i := 0) picks nCur_name ?_ rfl (by omega))
    show lookE (lastK (renE old fresh true 0) ((FsD.next picks).1 % 3)).1 nCur = some 0
    rw [h]; kernel_rfl
  · refine .inr (crash_read (i := 1) picks nCur_name ?_ rfl (by omega))
    show lookE (lastK (renE old fresh true 0) ((FsD.next picks).1 % 3)).1 nCur = some 1
    rw [h]; kernel_rfl
theorem end6 (picks : List Int) (l : Int) (hl : fresh.length ≤ 3000) : ((renF old fresh false l).crash picks).read nCur 0 1048576 = (fresh, 0) ∧ (((renF old fresh false l).crash picks).size nTmp).2 = 7 := by
  have hK : (FsD.next picks).1 % ((renF old fresh false l).wait.length + 1) = 0 := Nat.mod_one _
  refine ⟨crash_read (i := 1) picks nCur_name (by rw [hK]; kernel_rfl) rfl (by omega), ?_⟩
  have hf : ((renF old fresh false l).crash picks).find nTmp = (7, none) := by
    unfold FsD.find
    rw [nTmp_name]
    show (match lookE (lastK (renF old fresh false l) ((FsD.next picks).1 % ((renF old fresh false l).wait.length + 1))).1 nTmp with | none => ((7 : Int), none) | some i => (0, some i)) = _
    rw [hK]; kernel_rfl
  unfold FsD.size
  rw [hf]
end
end Go.Proofs.YtjmafbdakalknaaDoor
