/- Jobs: what the document's functions compute, in plain Lean. No program in sight. -/
import Derived.Test.YtheanmfdfoefoaaDoc
import Derived.Lib.MinMaxS
namespace Go.Proofs.Ytheanmfdfoefoaa
open Go Go.RowKit

structure LimD where
  tables : Int
  bytes : Int
structure JobD where
  level : Int
  frm : List MetaD
  too : List MetaD
  bottom : Bool
def limB (l : LimD) : Bool := decide (1 ≤ l.tables) && decide (l.tables ≤ 100) && decide (1 ≤ l.bytes) && decide (l.bytes ≤ 1073741824)
def fullD (l : LimD) (n : Int) : Int × Int := if limB l = false ∨ n < 0 ∨ 4 ≤ n then (0, 1) else (if n = 0 then l.tables else if n = 1 then l.bytes else if n = 2 then 8 * l.bytes else 0, 0)
def sizeL (l : List MetaD) : Int := l.foldl (fun n m => n + m.size) 0
def fullB (l : List MetaD) (n limit : Int) : Bool := if n = 0 then decide (limit ≤ (l.length : Int)) else decide (limit < sizeL l)
def minF (a : ByteArray) (l : List MetaD) : ByteArray := l.foldl (fun a m => Lib.minS a m.first) a
def maxF (a : ByteArray) (l : List MetaD) : ByteArray := l.foldl (fun a m => Lib.maxS a m.last) a
def headM (l : List MetaD) : MetaD := l.headD ⟨0, 0, ⟨#[]⟩, ⟨#[]⟩⟩
def spanA (l : List MetaD) : ByteArray := minF (headM l).first l
def spanZ (l : List MetaD) : ByteArray := maxF (headM l).last l
def touchB (a z : ByteArray) (m : MetaD) : Bool := sle m.first z && !slt m.last a
def touchL (l : List MetaD) (a z : ByteArray) : List MetaD := l.filter (touchB a z)
def leastM (l : List MetaD) : MetaD := l.foldl (fun a m => if m.file < a.file then m else a) (headM l)
def frmS (s : StD) (n : Nat) : List MetaD := if n = 0 then s.lv 0 else [leastM (s.lv n)]
def tooS (s : StD) (n : Nat) : List MetaD := touchL (s.lv (n + 1)) (spanA (frmS s n)) (spanZ (frmS s n))
def deepB (s : StD) (n k : Nat) : Bool := (touchL (s.lv k) (spanA (frmS s n ++ tooS s n)) (spanZ (frmS s n ++ tooS s n))).length == 0
def botS (s : StD) (n : Nat) : Nat → Bool
  | 0 => true
  | j + 1 => botS s n j && deepB s n (n + 2 + j)
def jobS (s : StD) (n : Nat) : JobD := ⟨n, frmS s n, tooS s n, botS s n (2 - n)⟩
def noJ : JobD := ⟨0, [], [], false⟩
def nextS (s : StD) (l : LimD) : Nat → Nat → JobD × Bool × Int
  | 0, _ => (noJ, false, 0)
  | f + 1, n => if fullB (s.lv n) n (fullD l n).1 then (jobS s n, true, 0) else nextS s l f (n + 1)
def nextD (s : StD) (l : LimD) : JobD × Bool × Int := if limB l = false then (noJ, false, 1) else nextS s l 3 0

theorem sizeL_bd (l : List MetaD) (h : ∀ m ∈ l, 1 ≤ m.size ∧ m.size ≤ 1048576) : 0 ≤ sizeL l ∧ sizeL l ≤ 1048576 * (l.length : Int) := by
  have key : ∀ (l : List MetaD) (a : Int), (∀ m ∈ l, 1 ≤ m.size ∧ m.size ≤ 1048576) → a ≤ l.foldl (fun n m => n + m.size) a ∧ l.foldl (fun n m => n + m.size) a ≤ a + 1048576 * (l.length : Int) := by
    intro l
    induction l with
    | nil => intro a _; simp
    | cons m l ih =>
      intro a h
      have h1 := h m (by simp)
      have h2 := ih (a + m.size) (fun x hx => h x (by simp [hx]))
      simp only [List.foldl_cons, List.length_cons]
      omega
  have := key l 0 h
  unfold sizeL
  omega
theorem minS_self (a : ByteArray) : Lib.minS a a = a := by unfold Lib.minS; rw [if_pos (.inr rfl)]
theorem maxS_self (a : ByteArray) : Lib.maxS a a = a := by unfold Lib.maxS; split <;> rfl
theorem minF_append (a : ByteArray) (l m : List MetaD) : minF a (l ++ m) = minF (minF a l) m := by unfold minF; rw [List.foldl_append]
theorem maxF_append (a : ByteArray) (l m : List MetaD) : maxF a (l ++ m) = maxF (maxF a l) m := by unfold maxF; rw [List.foldl_append]
theorem headM_append (l m : List MetaD) (h : l ≠ []) : headM (l ++ m) = headM l := by cases l <;> simp_all [headM]
/-- The first is met twice. -/
theorem minF_tail (l : List MetaD) : spanA l = minF (headM l).first l.tail := by cases l <;> simp [spanA, minF, headM, minS_self]
theorem maxF_tail (l : List MetaD) : spanZ l = maxF (headM l).last l.tail := by cases l <;> simp [spanZ, maxF, headM, maxS_self]
theorem leastM_mem (l : List MetaD) (h : l ≠ []) : leastM l ∈ l := by
  have key : ∀ (l : List MetaD) (a : MetaD), l.foldl (fun a m => if m.file < a.file then m else a) a = a ∨ l.foldl (fun a m => if m.file < a.file then m else a) a ∈ l := by
    intro l
    induction l with
    | nil => intro a; simp
    | cons m l ih =>
      intro a
      simp only [List.foldl_cons, List.mem_cons]
      rcases ih (if m.file < a.file then m else a) with h | h
      · rw [h]; split <;> simp
      · exact .inr (.inr h)
  rcases key l (headM l) with h1 | h1
  · unfold leastM; rw [h1]; cases l with
    | nil => exact absurd rfl h
    | cons m l => simp [headM]
  · exact h1
/-- What a state of a few right tables is like. -/
structure Gd (s : StD) (k : Nat) : Prop where
  good : ∀ n m, m ∈ s.lv n → tableB m = true
  few : ∀ n, n < 4 → (s.lv n).length ≤ k
theorem tableB_bd {m : MetaD} (h : tableB m = true) : 1 ≤ m.file ∧ m.file ≤ 999999 ∧ 1 ≤ m.size ∧ m.size ≤ 1048576 := by
  simp only [tableB, Bool.and_eq_true, decide_eq_true_eq] at h
  omega
def oneE (a : AddD) : EdD := ⟨-1, -1, -1, [], [a]⟩
theorem docApply_one {s : StD} {a : AddD} (h : (docApply s (oneE a)).2 = 0) :
    addB a = true ∧ (docApply s (oneE a)).1 = s.with a.level.toNat (putL (s.lv a.level.toNat) a.t a.level.toNat) := by
  have hr : rightB (oneE a) = addB a := by simp [rightB, headB, numsB, oneE]
  have hb : badB s (oneE a) = false := by simp [badB, oneE]
  unfold docApply at h ⊢
  rw [hr] at h ⊢
  rcases ha : addB a with _ | _
  · rw [ha] at h; simp at h
  · rw [ha] at h
    rw [if_neg (by simp), if_neg (by rw [hb]; simp)] at h ⊢
    refine ⟨rfl, ?_⟩
    simp only [applyGo, oneE, goneS, applyNew, newS] at h ⊢
    rcases hh : hasB s a.t.file with _ | _
    · rw [hh] at h
      rw [if_neg (by simp)] at h ⊢
      simp only [applyEnd] at h ⊢
      split at h
      · simp at h
      · split at h
        · simp at h
        · rw [if_neg (by assumption), if_neg (by assumption)]
          rfl
    · rw [hh] at h
      simp at h
def growS (l : List AddD) : StD := (l.take 30).foldl (fun s a => if (docApply s (oneE a)).2 = 0 then (docApply s (oneE a)).1 else s) emptyS
theorem with_gd {s : StD} {k : Nat} {a : AddD} (g : Gd s k) (h : (docApply s (oneE a)).2 = 0) : Gd (docApply s (oneE a)).1 (k + 1) := by
  obtain ⟨ha, he⟩ := docApply_one h
  rw [he]
  simp only [addB, Bool.and_eq_true] at ha
  refine ⟨fun n m hm => ?_, fun n hn => ?_⟩
  · rw [with_lv] at hm
    split at hm
    · rcases List.mem_cons.1 ((putL_perm _ _ _).mem_iff.1 hm) with rfl | h'
      · exact ha.2
      · exact g.good _ _ h'
    · exact g.good _ _ hm
  · rw [with_lv]
    split
    · rename_i e; subst e; rw [putL_len]; have := g.few _ hn; omega
    · have := g.few n hn; omega
theorem gd_mono {s : StD} {k k' : Nat} (g : Gd s k) (h : k ≤ k') : Gd s k' := ⟨g.good, fun n hn => Nat.le_trans (g.few n hn) h⟩
theorem grow_fold : ∀ (l : List AddD) (s : StD) (k : Nat), Gd s k → Gd (l.foldl (fun s a => if (docApply s (oneE a)).2 = 0 then (docApply s (oneE a)).1 else s) s) (k + l.length) := by
  intro l
  induction l with
  | nil => intro s k g; exact g
  | cons a l ih =>
    intro s k g
    simp only [List.foldl_cons, List.length_cons]
    rw [show k + (l.length + 1) = k + 1 + l.length from by omega]
    apply ih
    split
    · exact with_gd g (by assumption)
    · exact gd_mono g (by omega)
theorem empty_gd : Gd emptyS 0 := ⟨fun n m h => by simp [emptyS] at h, fun n _ => by simp [emptyS]⟩
theorem grow_gd (l : List AddD) : Gd (growS l) 30 := gd_mono (grow_fold (l.take 30) emptyS 0 empty_gd) (by simp; omega)
end Go.Proofs.Ytheanmfdfoefoaa
