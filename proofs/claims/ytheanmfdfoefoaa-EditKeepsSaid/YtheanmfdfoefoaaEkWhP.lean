/- Edit: all tables as one edit. Plain. -/
import Derived.Test.YtheanmfdfoefoaaEdDF
set_option linter.unusedVariables false
namespace Go.Proofs.Ytheanmfdfoefoaa
open Go Go.RowKit Hv
def wholeTo (s : StD) : Nat → List AddD
  | 0 => []
  | n + 1 => wholeTo s n ++ (s.lv n).map fun m => ⟨(n : Int), m⟩
def wholeE (s : StD) : EdD := ⟨s.log, s.next, s.seq, [], wholeTo s 4⟩
theorem wholeTo_len (s : StD) (hl : ∀ n, n < 4 → (s.lv n).length ≤ 100000) : ∀ n, n ≤ 4 → (wholeTo s n).length ≤ n * 100000
  | 0, _ => by simp [wholeTo]
  | n + 1, h => by
    have := wholeTo_len s hl n (by omega)
    have := hl n (by omega)
    simp only [wholeTo, List.length_append, List.length_map]; omega
def zE5' : List AV := [.lit (.int .i64 0), .lit (.int .i64 0), .lit (.int .i64 0), .lit (.slice none 0 0), .lit (.slice none 0 0)]
def whC (s : StD) (v : AV) : List AV := [.lit (.int .i64 s.log), .lit (.int .i64 s.next), .lit (.int .i64 s.seq), .lit (.slice none 0 0), v]
end Go.Proofs.Ytheanmfdfoefoaa
