/- Equality of the versions' structs, for the walk over an abstract heap. -/
import Derived.Test.YtpemfmlonamikaaHvFn
import Derived.Test.YtpemfmlonamikaaBase16
namespace Go.Proofs.Ytpemfmlonamikaa.Hv
open Go Go.RowKit

theorem okEq_of {P : Program} {t : Nat} {f : List Value → List Value → Option Bool} (hm : P.eqGuardType P.depth t = false) (h : ∀ us vs b, f us vs = some b → ∀ w, (Op.equalIn 10000 t (.agg us.toArray) (.agg vs.toArray)).run P w = .ok b w) : okEq P (t, f) := by
  intro us vs b hb X Y w
  have e := h us vs b hb w
  constructor
  · rw [Sem.run_bind, run_eqGuard_agg _ _ _ _ _ _ _ hm, Result.andThen_ok, run_eql_struct, e]; rfl
  · rw [Sem.run_bind, run_eqGuard_agg _ _ _ _ _ _ _ hm, Result.andThen_ok, run_neq_struct, e]; rfl
def eqCell : List Value → List Value → Option Bool
  | [.string a, .int .i64 b, .int .i64 c, .string d], [.string a', .int .i64 b', .int .i64 c', .string d'] => some (cellEq ⟨a, b, c, d⟩ ⟨a', b', c', d'⟩)
  | _, _ => none
theorem eqCell_xy (x y : CellD) : eqCell [.string x.key, .int .i64 x.seq, .int .i64 x.kind, .string x.val] [.string y.key, .int .i64 y.seq, .int .i64 y.kind, .string y.val] = some (cellEq x y) := rfl
def eqVer : List Value → List Value → Option Bool
  | [.string a, .int .i64 b, .int .i64 c], [.string a', .int .i64 b', .int .i64 c'] => some (verEq ⟨a, b, c, ⟨#[]⟩⟩ ⟨a', b', c', ⟨#[]⟩⟩)
  | _, _ => none
theorem eqVer_xy (x y : CellD) : eqVer [.string x.key, .int .i64 x.seq, .int .i64 x.kind] [.string y.key, .int .i64 y.seq, .int .i64 y.kind] = some (verEq x y) := rfl
def eqPair : List Value → List Value → Option Bool
  | [.string a, .string d], [.string a', .string d'] => some (a.toList == a'.toList && d.toList == d'.toList)
  | _, _ => none
theorem eqCell_ok : okEq Try.prog (36, eqCell) := by
  refine okEq_of (by kernel_rfl) fun us vs b h w => ?_
  unfold eqCell at h
  split at h
  · simp only [Option.some.injEq] at h
    subst h
    have hu : Try.prog.underlying 36 = some (.struct (Try.prog.fieldsOf 36)) := by kernel_rfl
    have hh : Try.prog.stoodInHeld 36 = false := by kernel_rfl
    rw [run_equalIn_agg _ _ _ _ _ hu hh]
    have h24 := Try.underlying36
    have h25 := Try.underlying34
    simp [go_sem, Program.fieldsOf, h24, h25, Try.underlying3, Try.underlying9]
    unfold cellEq verEq keqB
    repeat' split
    all_goals simp [*]
  · cases h
theorem eqVer_ok : okEq Try.prog (34, eqVer) := by
  refine okEq_of (by kernel_rfl) fun us vs b h w => ?_
  unfold eqVer at h
  split at h
  · simp only [Option.some.injEq] at h
    subst h
    have hu : Try.prog.underlying 34 = some (.struct (Try.prog.fieldsOf 34)) := by kernel_rfl
    have hh : Try.prog.stoodInHeld 34 = false := by kernel_rfl
    rw [run_equalIn_agg _ _ _ _ _ hu hh]
    have h25 := Try.underlying34
    simp [go_sem, Program.fieldsOf, h25, Try.underlying3, Try.underlying9]
    unfold verEq keqB
    repeat' split
    all_goals simp [*]
  · cases h
theorem eqPair_ok : okEq Try.prog (61, eqPair) := by
  refine okEq_of (by kernel_rfl) fun us vs b h w => ?_
  unfold eqPair at h
  split at h
  · simp only [Option.some.injEq] at h
    subst h
    have hu : Try.prog.underlying 61 = some (.struct (Try.prog.fieldsOf 61)) := by kernel_rfl
    have hh : Try.prog.stoodInHeld 61 = false := by kernel_rfl
    rw [run_equalIn_agg _ _ _ _ _ hu hh]
    have h25 := Try.underlying61
    simp [go_sem, Program.fieldsOf, h25, Try.underlying9]
    repeat' split
    all_goals simp [*]
  · cases h
end Go.Proofs.Ytpemfmlonamikaa.Hv
