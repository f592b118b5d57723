/- Chapter 7's statement FsCuts: the plain law, no program in sight. -/
import Derived.Test.YtjmafbdakalknaaDoorFsFiles
set_option linter.unusedVariables false
namespace Go.Proofs.YtjmafbdakalknaaDoor
open Go Go.RowKit Hv
/-- One file that has a name for good. -/
def oneD (x : FileD) : FsD := ⟨1048576, [x], ([⟨nA, 0, 0⟩], 1), ([⟨nA, 0, 0⟩], 1), [], false, false, 0⟩
/-- The same, but its name does not last yet. -/
def oneW (x : FileD) : FsD := ⟨1048576, [x], ([⟨nA, 0, 0⟩], 1), ([], 0), [.new nA 0], false, false, 0⟩
theorem cuts1 : (fsNew 1048576).create nA = (oneW ⟨[], 0⟩, 0) := by kernel_rfl
theorem oneW_find (x : FileD) : (oneW x).find nA = (0, some 0) := by kernel_rfl
theorem oneD_find (x : FileD) : (oneD x).find nA = (0, some 0) := by kernel_rfl
theorem one_append {d : FsD} {x : FileD} (b : List UInt8) (hf : d.find nA = (0, some 0)) (h1 : d.file 0 = x) (h2 : d.used = x.b.length) (h3 : d.room = 1048576) (h4 : d.chg = (d, 0)) (hl : x.b.length + b.length ≤ 1000000) : d.append nA b = (d.setFile 0 ⟨x.b ++ b, x.last⟩, 0) := by
  unfold FsD.append
  rw [hf]
  show (if 1048576 < (d.file 0).b.length + b.length then _ else _) = _
  rw [h1, h2, h3, h4, if_neg (by omega), if_neg (by omega), if_neg (fun h => h rfl)]
theorem used_W (x : FileD) : (oneW x).used = x.b.length := by show x.b.length + 0 = _; omega
theorem used_D (x : FileD) : (oneD x).used = x.b.length := by show x.b.length + 0 = _; omega
theorem cuts2 (b : List UInt8) (hb : b.length ≤ 3000) : (oneW ⟨[], 0⟩).append nA b = (oneW ⟨b, 0⟩, 0) :=
  one_append b (oneW_find _) rfl (used_W _) rfl rfl (by show 0 + b.length ≤ _; omega)
theorem cuts3 (b : List UInt8) : (oneW ⟨b, 0⟩).sync nA = (oneW ⟨b, b.length⟩, 0) := by
  unfold FsD.sync; rw [oneW_find]; rfl
theorem cuts4 (x : FileD) : (oneW x).syncDir = (oneD x, 0) := rfl
theorem cuts5 (x : FileD) (b : List UInt8) (hb : x.b.length + b.length ≤ 6000) : (oneD x).append nA b = (oneD ⟨x.b ++ b, x.last⟩, 0) :=
  one_append b (oneD_find _) rfl (used_D _) rfl rfl (by omega)
/-- What a crash leaves of the one file. -/
def oneCut (x : FileD) (picks : List Int) : FileD := if x.b.length = x.last then x else FsD.cutFile x (FsD.next (FsD.next picks).2).1
theorem cuts6 (x : FileD) (picks : List Int) : (oneD x).crash picks = oneD (oneCut x picks) := by
  have hK : (FsD.next picks).1 % ((oneD x).wait.length + 1) = 0 := Nat.mod_one _
  rw [crash_eq (oneD x) picks (ns := [nA]) (by rw [hK]; exact sortN_one nA), hK]
  have hl : lookE [(⟨nA, 0, 0⟩ : NmE)] nA = some 0 := by kernel_rfl
  have hc : FsD.cutAll [⟨nA, 0, 0⟩] [nA] [x] (FsD.next picks).2 = [oneCut x picks] := by
    unfold FsD.cutAll
    rw [hl]
    show (if x.b.length = x.last then FsD.cutAll [⟨nA, 0, 0⟩] [] [x] (FsD.next picks).2 else _) = _
    unfold oneCut
    split
    · rfl
    · rfl
  show ({ oneD x with files := FsD.cutAll [⟨nA, 0, 0⟩] [nA] [x] (FsD.next picks).2 } : FsD) = _
  rw [hc]; rfl
theorem oneCut_last (x : FileD) (picks : List Int) : (oneCut x picks).last = (oneCut x picks).b.length := by
  unfold oneCut
  split
  · rename_i h; exact h.symm
  · rfl
theorem oneCut_again (x : FileD) (h : x.last = x.b.length) (picks : List Int) : oneCut x picks = x := by
  unfold oneCut; rw [if_pos h.symm]
theorem spoil_take (l : List UInt8) : (FsD.spoil l).take (l.length - 1) = l.take (l.length - 1) := by
  unfold FsD.spoil
  split
  · rename_i b h
    rw [List.take_append_of_le_length (by rw [List.length_dropLast]; exact Nat.le_refl _), List.dropLast_eq_take]
    rw [List.take_take, Nat.min_self]
  · rfl
theorem spoil_last (l : List UInt8) : (FsD.spoil l)[l.length - 1]? = l[l.length - 1]?.map (· ^^^ 85) := by
  unfold FsD.spoil
  split
  · rename_i b h
    rw [List.getElem?_append_right (by rw [List.length_dropLast]; exact Nat.le_refl _), List.length_dropLast, Nat.sub_self]
    rw [List.getLast?_eq_getElem?] at h
    rw [h]; rfl
  · rename_i h
    have : l = [] := by simpa using h
    subst this; rfl
/-- FsCuts, plain: what is read behind the crash. -/
theorem oneCut_is (sure more : List UInt8) (picks : List Int) {r : List UInt8} (hr : (oneCut ⟨sure ++ more, sure.length⟩ picks).b = r) :
    sure.length ≤ r.length ∧ r.length ≤ (sure ++ more).length ∧ r.take sure.length = sure ∧ (sure.length < r.length → r.take (r.length - 1) = (sure ++ more).take (r.length - 1) ∧ (r[r.length - 1]? = (sure ++ more)[r.length - 1]? ∨ r[r.length - 1]? = (sure ++ more)[r.length - 1]?.map (· ^^^ 85))) := by
  have hx : sure.length ≤ (sure ++ more).length := by rw [List.length_append]; omega
  unfold oneCut at hr
  split at hr
  · rename_i he
    have he : (sure ++ more).length = sure.length := he
    subst hr
    exact ⟨hx, Nat.le_refl _, List.take_left' rfl, fun h => by have h : sure.length < (sure ++ more).length := h; omega⟩
  · generalize (FsD.next (FsD.next picks).2).1 = p at hr
    have hm : p % ((sure ++ more).length - sure.length + 1) < (sure ++ more).length - sure.length + 1 := Nat.mod_lt _ (Nat.succ_pos _)
    have hr' : (if p % 2 = 1 ∧ 0 < p % ((sure ++ more).length - sure.length + 1) then FsD.spoil ((sure ++ more).take (sure.length + p % ((sure ++ more).length - sure.length + 1))) else (sure ++ more).take (sure.length + p % ((sure ++ more).length - sure.length + 1))) = r := hr
    clear hr
    generalize p % ((sure ++ more).length - sure.length + 1) = m at hm hr'
    generalize hq : (sure ++ more).take (sure.length + m) = q at hr'
    have hql : q.length = sure.length + m := by rw [← hq, List.length_take]; omega
    have hqs : q.take sure.length = sure := by rw [← hq, List.take_take, Nat.min_eq_left (by omega)]; exact List.take_left' rfl
    have hqt : ∀ k, k ≤ q.length → q.take k = (sure ++ more).take k := fun k hk => by rw [← hq, List.take_take, Nat.min_eq_left (by omega)]
    have hqi : ∀ k, k < q.length → q[k]? = (sure ++ more)[k]? := fun k hk => by rw [← hq, List.getElem?_take_of_lt (by omega)]
    split at hr'
    · rename_i hc
      have hrl : r.length = q.length := by rw [← hr']; exact spoil_len q
      have ht : r.take (q.length - 1) = q.take (q.length - 1) := by rw [← hr']; exact spoil_take q
      refine ⟨by omega, by omega, ?_, fun h => ⟨?_, .inr ?_⟩⟩
      · have := congrArg (List.take sure.length) ht
        rw [List.take_take, List.take_take, Nat.min_eq_left (by omega)] at this
        rw [this]; exact hqs
      · rw [hrl, ht]; exact hqt _ (by omega)
      · rw [hrl, ← hr', spoil_last, hqi _ (by omega)]
    · subst hr'
      exact ⟨by omega, by omega, hqs, fun h => ⟨hqt _ (by omega), .inl (hqi _ (by omega))⟩⟩
theorem cuts7 (x : FileD) (h : x.b.length ≤ 6000) : (oneD x).read nA 0 1048576 = (x.b, 0) := by
  unfold FsD.read
  rw [oneD_find]
  show (if (0 : Int) < 0 ∨ (1048576 : Int) < 0 ∨ (x.b.length : Int) < 0 then _ else _) = _
  rw [if_neg (by omega), if_neg (fun h => h rfl)]
  show ((x.b.drop 0).take 1048576, (0 : Int)) = _
  rw [List.drop_zero, List.take_of_length_le (by omega)]
end Go.Proofs.YtjmafbdakalknaaDoor
