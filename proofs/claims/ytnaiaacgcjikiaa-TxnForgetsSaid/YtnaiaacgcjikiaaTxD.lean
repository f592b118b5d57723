/- Transactions: keys as arrays, changes, books: as data, and how they lie in the heap. -/
import Derived.Test.YtnaiaacgcjikiaaHvTab
import Derived.Test.YtnaiaacgcjikiaaHvNew
import Derived.Test.YtnaiaacgcjikiaaKsP
set_option linter.unusedVariables false
set_option linter.unusedSimpArgs false
namespace Go.Proofs.Ytnaiaacgcjikiaa
open Go Go.RowKit Hv
set_option maxRecDepth 20000
theorem nb {a b : Nat} (h : a ≠ b) : (a == b) = false := beq_eq_false_iff_ne.2 h
theorem wrap_nat0 {k : Nat} (h : k < 4611686018427387904) : IntKind.i64.wrap ((k : Int) + 1) = ((k + 1 : Nat) : Int) := by
  have := IntWalk.i64_in ((k : Int) + 1) (by omega)
  omega
structure OpD where
  kind : Int
  key : ByteArray
  val : ByteArray
def opC (o : OpD) : List Value := [.int .i64 o.kind, .string o.key, .string o.val]
def opI (o : OpD) : List AV := [.lit (.int .i64 o.kind), .lit (.string o.key), .lit (.string o.val)]
def opA (o : OpD) : AV := .agg (opI o)
/-- Keys that fit. -/
abbrev Nm := {k : ByteArray // k.size ≤ 64}
def u8A (n : Int) : AV := .lit (.int .u8 n)
def padL (k : ByteArray) : List Int := k.data.toList.map (fun b => (b.toNat : Int)) ++ List.replicate (64 - k.size) 0
def nameC (k : ByteArray) : List AV := .lit (.int .i64 (k.size : Int)) :: (padL k).map u8A
def nameA (k : Nm) : AV := .agg (nameC k.1)
theorem padL_len {k : ByteArray} (h : k.size ≤ 64) : (padL k).length = 64 := by
  unfold padL
  rw [List.length_append, List.length_map, List.length_replicate, Array.length_toList]
  show k.size + _ = _
  omega
theorem nameC_len {k : ByteArray} (h : k.size ≤ 64) : (nameC k).length = 65 := by unfold nameC; rw [List.length_cons, List.length_map, padL_len h]
theorem keyCells_u8 : ∀ (l m : List Int), l.length = m.length → keyCells (l.map u8A) (m.map u8A) = some (decide (l = m))
  | [], [], _ => rfl
  | a :: l, b :: m, h => by
    have ih := keyCells_u8 l m (by simpa using h)
    show (match keyCell (u8A a) (u8A b), keyCells (l.map u8A) (m.map u8A) with | some x, some y => some (x && y) | _, _ => none) = _
    rw [ih]
    simp only [u8A, keyCell, if_true, Option.some.injEq]
    rw [Bool.eq_iff_iff]
    simp
  | [], _ :: _, h => by simp at h
  | _ :: _, [], h => by simp at h
theorem padL_inj {a b : ByteArray} (ha : a.size ≤ 64) (hs : a.size = b.size) (h : padL a = padL b) : a = b := by
  unfold padL at h
  rw [hs] at h
  have h2 := List.append_cancel_right h
  have h3 : a.data.toList = b.data.toList := by
    apply List.ext_getElem?
    intro j
    have := congrArg (fun l => l[j]?) h2
    simp only [List.getElem?_map] at this
    cases h4 : a.data.toList[j]? with
    | none => rw [h4] at this; cases h5 : b.data.toList[j]? with
      | none => rfl
      | some y => rw [h5] at this; cases this
    | some x => rw [h4] at this; cases h5 : b.data.toList[j]? with
      | none => rw [h5] at this; cases this
      | some y =>
        rw [h5] at this
        simp only [Option.map_some, Option.some.injEq] at this
        congr 1
        exact UInt8.toNat_inj.1 (by omega)
  cases a; cases b
  congr 1
  exact Array.toList_inj.1 h3
theorem keyOk_name : KeyOk nameA := fun a b => by
  simp only [nameA, keyEq, nameC, keyCells, keyCell, if_true, keyCells_u8 _ _ ((padL_len a.2).trans (padL_len b.2).symm)]
  congr 1
  rw [Bool.eq_iff_iff]
  simp only [Bool.and_eq_true, beq_iff_eq, decide_eq_true_eq]
  constructor
  · rintro ⟨h1, h2⟩
    exact Subtype.ext (padL_inj a.2 (by omega) h2)
  · rintro rfl; exact ⟨rfl, rfl⟩
theorem kmatch_u8 : ∀ (l : List Int), kmatchA (List.replicate l.length (.int .u8)) (l.map u8A) = true
  | [] => rfl
  | a :: l => by
    rw [List.length_cons, List.replicate_succ, List.map_cons]
    show (ckIs (.int .u8) (.int .u8 a) && kmatchA (List.replicate l.length (.int .u8)) (l.map u8A)) = true
    rw [kmatch_u8 l]; rfl
theorem kind_name (k : Nm) : keyKind T 65 (.agg (nameC k.1)) = true := by
  simp only [keyKind, keys65]
  have := kmatch_u8 (padL k.1)
  rw [padL_len k.2] at this
  unfold nameC
  simp only [kmatchA]
  exact Bool.and_eq_true_iff.2 ⟨rfl, this⟩
end Go.Proofs.Ytnaiaacgcjikiaa
