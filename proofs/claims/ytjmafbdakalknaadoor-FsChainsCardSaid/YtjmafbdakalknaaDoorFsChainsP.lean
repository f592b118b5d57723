/- Chapter 7's statement FsChains: the plain law, no program in sight. -/
import Derived.Test.YtjmafbdakalknaaDoorFsRoomP
import Derived.Test.YtjmafbdakalknaaDoorFsRenP
set_option linter.unusedVariables false
namespace Go.Proofs.YtjmafbdakalknaaDoor
open Go Go.RowKit Hv
def nC : ByteArray := ⟨#[99]⟩
def nD : ByteArray := ⟨#[100]⟩
def nIt : ByteArray := ⟨#[105, 116]⟩
def nmC : Nat → ByteArray
  | 0 => nA
  | 1 => nB
  | 2 => nC
  | _ => nD
def byC : Nat → List UInt8
  | 0 => [97]
  | 1 => [98]
  | 2 => [99]
  | _ => [100]
theorem four {k : Nat} (h : k < 4) : k = 0 ∨ k = 1 ∨ k = 2 ∨ k = 3 := by omega
theorem nC_name : nameB nC = true := by kernel_rfl
theorem nD_name : nameB nD = true := by kernel_rfl
theorem nmC_name (k : Nat) : nameB (nmC k) = true := by
  match k with
  | 0 => exact nA_name
  | 1 => exact nB_name
  | 2 => exact nC_name
  | _ + 3 => exact nD_name
theorem nIt_name : nameB nIt = true := by kernel_rfl
theorem nmC_it (k : Nat) : nmC k ≠ nIt := by
  match k with
  | 0 => exact of_decide_eq_true rfl
  | 1 => exact of_decide_eq_true rfl
  | 2 => exact of_decide_eq_true rfl
  | _ + 3 => exact of_decide_eq_true rfl
theorem nmC_inj {j k : Nat} (hj : j < 4) (hk : k < 4) (h : nmC j = nmC k) : j = k := by
  rcases four hj with rfl | rfl | rfl | rfl <;> rcases four hk with rfl | rfl | rfl | rfl <;> first | rfl | exact absurd h (of_decide_eq_true rfl)
def chF (dat : List UInt8) : List FileD := [⟨[97], 1⟩, ⟨[98], 1⟩, ⟨[99], 1⟩, ⟨[100], 1⟩, ⟨dat, dat.length⟩]
theorem chF_at (dat : List UInt8) {k : Nat} (h : k < 4) : (chF dat)[k]? = some ⟨byC k, (byC k).length⟩ := by
  rcases four h with rfl | rfl | rfl | rfl <;> rfl
/-- Behind so many of the first files. -/
def chS : Nat → FsD
  | 0 => fsNew 1048576
  | k + 1 => (((((chS k).create (nmC k)).1.append (nmC k) (byC k)).1.sync (nmC k)).1)
theorem chS_codes {k : Nat} (h : k < 4) : ((chS k).create (nmC k)).2 = 0 ∧ (((chS k).create (nmC k)).1.append (nmC k) (byC k)).2 = 0 ∧ ((((chS k).create (nmC k)).1.append (nmC k) (byC k)).1.sync (nmC k)).2 = 0 ∧ (chS k).wait.length ≤ 4 := by
  rcases four h with rfl | rfl | rfl | rfl <;> exact ⟨by kernel_rfl, by kernel_rfl, by kernel_rfl, Nat.le_of_ble_eq_true (by kernel_rfl)⟩
def chE (x : List FileD) : FsD := ⟨1048576, [⟨[97], 1⟩, ⟨[98], 1⟩, ⟨[99], 1⟩, ⟨[100], 1⟩] ++ x, ([⟨nA, 0, 0⟩, ⟨nB, 1, 1⟩, ⟨nC, 2, 2⟩, ⟨nD, 3, 3⟩, ⟨nIt, 4, 4⟩], 5), ([], 0), [.new nA 0, .new nB 1, .new nC 2, .new nD 3, .new nIt 4], false, false, 0⟩
theorem chS4 : (chS 4).create nIt = (chE [⟨[], 0⟩], 0) := by kernel_rfl
theorem chE1 {dat : List UInt8} (h : dat.length ≤ 3000) : (chE [⟨[], 0⟩]).append nIt dat = (chE [⟨dat, 0⟩], 0) := by
  have e := append_at (d := chE [⟨[], 0⟩]) (s := nIt) (i := 4) (b := dat) (by kernel_rfl) (by kernel_rfl) (by rw [show (chE [⟨[], 0⟩]).used = 4 by kernel_rfl]; show ((4 : Nat) : Int) + _ ≤ 1048576; omega) (by rw [show ((chE [⟨[], 0⟩]).file 4).b = [] by kernel_rfl]; show 0 + _ ≤ _; omega)
  rw [e]; rfl
theorem chE2 {dat : List UInt8} : (chE [⟨dat, 0⟩]).sync nIt = (chE [⟨dat, dat.length⟩], 0) := by kernel_rfl
/-- The name that it has. -/
def nowC : Option Nat → ByteArray
  | none => nIt
  | some j => nmC j
structure ChainI (dat : List UInt8) (pos : Option Nat) (there : Nat → Bool) (d : FsD) : Prop where
  on : OnI 1048576 d
  files : d.files = chF dat
  names : ∀ j, j < 4 → lookE d.now.1 (nmC j) = if pos = some j then some 4 else if there j = true then some j else none
  it : lookE d.now.1 nIt = if pos = none then some 4 else none
  here : ∀ j, pos = some j → there j = true ∧ j < 4
theorem chain_start (dat : List UInt8) : ChainI dat none (fun _ => true) (chE [⟨dat, dat.length⟩]) := by
  refine ⟨⟨rfl, rfl, rfl⟩, rfl, fun j hj => ?_, ?_, fun j hj => by cases hj⟩
  · rcases four hj with rfl | rfl | rfl | rfl <;> kernel_rfl
  · kernel_rfl
def turnC (pos : Option Nat) (k : Nat) (there : Nat → Bool) : Nat → Bool := fun j => if j = k then true else if pos = some j then false else there j
theorem ChainI.turn {dat : List UInt8} {pos : Option Nat} {there : Nat → Bool} {d : FsD} (h : ChainI dat pos there d) (hok : FsOk d) {k : Nat} (hk : k < 4) :
    (d.rename (nowC pos) (nmC k)).2 = 0 ∧ ChainI dat (some k) (turnC pos k there) (d.rename (nowC pos) (nmC k)).1 ∧ (d.rename (nowC pos) (nmC k)).1.wait.length ≤ d.wait.length + 1 := by
  have hnow : lookE d.now.1 (nowC pos) = some 4 := by
    cases hp : pos with
    | none => show lookE d.now.1 nIt = _; rw [h.it, hp]; rfl
    | some j => show lookE d.now.1 (nmC j) = _; rw [h.names j (h.here j hp).2, hp, if_pos rfl]
  have hnn : nameB (nowC pos) = true := by
    cases pos with
    | none => exact nIt_name
    | some j => exact nmC_name j
  have hf : d.find (nowC pos) = (0, some 4) := find_of hnn hnow
  have e1 : d.rename (nowC pos) (nmC k) = if nowC pos = nmC k then (d, 0) else (d.doit (.ren (nowC pos) (nmC k) 4), 0) := by
    unfold FsD.rename
    rw [nmC_name, hf, h.on.chg]
    rfl
  have hpe : nowC pos = nmC k ↔ pos = some k := by
    cases hp : pos with
    | none => exact ⟨fun e => absurd e.symm (nmC_it k), fun e => by cases e⟩
    | some j => exact ⟨fun e => congrArg some (nmC_inj (h.here j hp).2 hk e), fun e => by injection e with e; rw [e]; rfl⟩
  rw [e1]
  by_cases hpk : pos = some k
  · rw [if_pos (hpe.2 hpk)]
    refine ⟨rfl, ?_, Nat.le_succ _⟩
    have ht : turnC pos k there = there := by
      funext j
      unfold turnC
      by_cases hj : j = k
      · rw [if_pos hj, hj, (h.here k hpk).1]
      · rw [if_neg hj, if_neg (by rw [hpk]; exact fun e => hj (Option.some.inj e).symm)]
    rw [ht, ← hpk]; exact h
  · rw [if_neg (fun e => hpk (hpe.1 e))]
    have hnd : (d.now.1.map (·.key)).Nodup := hok.nowOk.keys
    refine ⟨rfl, ⟨⟨h.on.room, h.on.off, h.on.armed⟩, h.files, fun j hj => ?_, ?_, fun j hj => ?_⟩, ?_⟩
    · show lookE (putE (delE d.now.1 (nowC pos)) d.now.2 (nmC k) 4).1 (nmC j) = _
      rw [lookE_put, lookE_del hnd]
      by_cases hjk : j = k
      · subst hjk; rw [if_pos rfl, if_pos rfl]
      · rw [if_neg (fun e => hjk (nmC_inj hj hk e)), if_neg (fun e => hjk (Option.some.inj e).symm)]
        unfold turnC
        rw [if_neg hjk]
        by_cases hpj : pos = some j
        · rw [if_pos (by rw [hpj]; rfl), if_pos hpj]; rfl
        · have hne : nmC j ≠ nowC pos := by
            cases hp : pos with
            | none => exact nmC_it j
            | some i => exact fun e => hpj (by rw [hp, nmC_inj hj (h.here i hp).2 e])
          rw [if_neg hne, h.names j hj, if_neg hpj, if_neg hpj]
    · show lookE (putE (delE d.now.1 (nowC pos)) d.now.2 (nmC k) 4).1 nIt = _
      rw [lookE_put, lookE_del hnd, if_neg (Ne.symm (nmC_it k)), if_neg (show ¬ (some k = none) from fun e => by cases e)]
      cases hp : pos with
      | none => rw [if_pos (show nIt = nowC none from rfl)]
      | some i => rw [if_neg (show ¬ nIt = nowC (some i) from Ne.symm (nmC_it i)), h.it, if_neg (by rw [hp]; exact fun e => by cases e)]
    · injection hj with hj; subst hj
      exact ⟨by unfold turnC; rw [if_pos rfl], hk⟩
    · show (d.wait ++ _).length ≤ _
      rw [List.length_append]; exact Nat.le_refl _
theorem read_at {d : FsD} {s : ByteArray} {i k : Nat} {x : FileD} (hn : nameB s = true) (h : lookE d.now.1 s = some i) (hf : d.files[i]? = some x) (ho : d.off = false) (hl : x.b.length ≤ k) : d.read s 0 k = (x.b, 0) := by
  unfold FsD.read FsD.find
  rw [hn, h]
  have hx : d.file i = x := by unfold FsD.file; rw [hf]; rfl
  show (if (0 : Int) < 0 ∨ (k : Int) < 0 ∨ ((d.file i).b.length : Int) < 0 then _ else if d.asks ≠ 0 then _ else _) = _
  rw [if_neg (by omega), if_neg (by unfold FsD.asks; rw [ho]; exact fun h => h rfl), hx]
  show ((x.b.drop 0).take (k : Int).toNat, (0 : Int)) = _
  rw [List.drop_zero, Int.toNat_natCast, List.take_of_length_le hl]
/-- Behind the SyncDir and the crash: what each name reads. -/
theorem ChainI.ends {dat : List UInt8} {pos : Option Nat} {there : Nat → Bool} {d : FsD} (h : ChainI dat pos there d) (picks : List Int) (hl : dat.length ≤ 1000) :
    d.syncDir.2 = 0 ∧ (∀ i, i < 4 → (d.syncDir.1.crash picks).read (nmC i) 0 1000 = if pos = some i then (dat, 0) else if there i = true then (byC i, 0) else ([], 7)) ∧ ((d.syncDir.1.crash picks).size nIt).2 = (if pos = none then 0 else 7) ∧ d.syncDir.1.wait = [] := by
  have e1 : d.syncDir = ({ d with last := d.now, wait := [] }, 0) := by
    unfold FsD.syncDir
    rw [h.on.chg]; rfl
  rw [e1]
  obtain ⟨d1, hd1⟩ : ∃ d1, ({ d with last := d.now, wait := [] } : FsD).crash picks = d1 := ⟨_, rfl⟩
  have hK : (FsD.next picks).1 % (({ d with last := d.now, wait := [] } : FsD).wait.length + 1) = 0 := Nat.mod_one _
  have hnow : d1.now = d.now := by
    subst hd1
    show lastK ({ d with last := d.now, wait := [] } : FsD) ((FsD.next picks).1 % (({ d with last := d.now, wait := [] } : FsD).wait.length + 1)) = _
    rw [hK]; rfl
  have hoff : d1.off = false := by subst hd1; rfl
  have hfile : ∀ (i : Nat) (b : List UInt8), (chF dat)[i]? = some ⟨b, b.length⟩ → d1.files[i]? = some ⟨b, b.length⟩ := fun i b hb => by
    subst hd1
    exact cutAll_sure _ _ _ _ (by show d.files[i]? = _; rw [h.files]; exact hb)
  refine ⟨rfl, fun i hi => ?_, ?_, rfl⟩
  · show (({ d with last := d.now, wait := [] } : FsD).crash picks).read (nmC i) 0 1000 = _
    rw [hd1]
    have hn := h.names i hi
    rw [← hnow] at hn
    by_cases hp : pos = some i
    · rw [if_pos hp] at hn
      rw [if_pos hp]
      exact read_at (k := 1000) (x := ⟨dat, dat.length⟩) (nmC_name i) hn (hfile 4 dat rfl) hoff hl
    · rw [if_neg hp] at hn
      rw [if_neg hp]
      by_cases ht : there i = true
      · rw [if_pos ht] at hn
        rw [if_pos ht]
        exact read_at (k := 1000) (x := ⟨byC i, (byC i).length⟩) (nmC_name i) hn (hfile i _ (chF_at dat hi)) hoff (by rcases four hi with rfl | rfl | rfl | rfl <;> exact Nat.le_of_ble_eq_true rfl)
      · rw [if_neg ht] at hn
        rw [if_neg ht]
        have hf : d1.find (nmC i) = (7, none) := by unfold FsD.find; rw [nmC_name, hn]; rfl
        unfold FsD.read
        rw [hf]
  · show ((({ d with last := d.now, wait := [] } : FsD).crash picks).size nIt).2 = _
    rw [hd1]
    have hn := h.it
    rw [← hnow] at hn
    unfold FsD.size FsD.find
    rw [nIt_name, hn]
    by_cases hp : pos = none
    · rw [if_pos hp, if_pos hp]
      show (if d1.asks ≠ 0 then ((0 : Int), d1.asks) else _).2 = _
      rw [if_neg (by unfold FsD.asks; rw [hoff]; exact fun h => h rfl)]
    · rw [if_neg hp, if_neg hp]; rfl
end Go.Proofs.YtjmafbdakalknaaDoor
