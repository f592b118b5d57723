/- From what TxnForgets' row reads to what its walk is told. -/
import Derived.Test.YtnaiaacgcjikiaaTxElems
import Derived.Test.YtnaiaacgcjikiaaTxForg
set_option linter.unusedVariables false
set_option linter.unusedSimpArgs false
namespace Go.Proofs.Ytnaiaacgcjikiaa
open Go Go.RowKit Go.ChangeShapes Go.WideShapes
instance : Inhabited MovD := ⟨⟨0, 0, 0, ⟨#[]⟩, ⟨#[]⟩⟩⟩
def movC (x : MovD) : List Value := [.int .i64 x.call, .int .i64 x.who, .int .i64 x.n, .string x.key, .string x.val]
theorem movC_len (x : MovD) : (movC x).length = 5 := rfl
def boolC (a : Bool) : List Value := [.bool a]
theorem boolC_len (a : Bool) : (boolC a).length = 1 := rfl
theorem cells_mov : Try.prog.cellsOf 50 = 5 := by kernel_rfl
theorem cells_bool : Try.prog.cellsOf 4 = 1 := by kernel_rfl
section
variable {H : Type} {enc : TypeId × Value → H} {w : World} {base : Nat} {spare : Nat → Bool} {held : Bool}
theorem read_mov (n : Nat) (cs : List Value) (y : DataW H × List MemPlace)
    (h : DataW.trod enc Try.prog w base spare held n 50 cs = some y) : ∃ m, cs = movC m ∧ True := by
  obtain ⟨xs, m, _, rfl, hl, hlen, hf⟩ := DataW.trod_struct Try.underlying50 h
  rw [cells_mov] at hl
  obtain ⟨c0, c1, c2, c3, c4, rfl⟩ := list5 hl
  obtain ⟨y0, y1, y2, y3, y4, rfl⟩ := list5 hlen
  have h0 := hf 0 _ rfl
  have h1 := hf 1 _ rfl
  have h2 := hf 2 _ rfl
  have h3 := hf 3 _ rfl
  have h4 := hf 4 _ rfl
  simp [cells_int, cells_str] at h0 h1 h2 h3 h4
  obtain ⟨k0, e0, _, _⟩ := DataW.trod_int Try.underlying3 h0
  obtain ⟨k1, e1, _, _⟩ := DataW.trod_int Try.underlying3 h1
  obtain ⟨k2, e2, _, _⟩ := DataW.trod_int Try.underlying3 h2
  obtain ⟨k3, e3, _, _⟩ := DataW.trod_string Try.underlying9 h3
  obtain ⟨k4, e4, _, _⟩ := DataW.trod_string Try.underlying9 h4
  simp only [List.cons.injEq, and_true] at e0 e1 e2 e3 e4
  subst e0 e1 e2 e3 e4
  exact ⟨⟨k0, k1, k2, k3, k4⟩, rfl, trivial⟩
theorem open_movs {fuel : Nat} {v : Value} {x : DataW H × List MemPlace}
    (h : DataW.trod enc Try.prog w base spare held fuel 48 [v] = some x) : ∃ l, RdT w 5 movC v l := by
  obtain ⟨l, hl, _⟩ := open_elems (good := fun _ => True) movC_len Try.underlying48 cells_mov read_mov h
  exact ⟨l, hl⟩
theorem open_bools {fuel : Nat} {v : Value} {x : DataW H × List MemPlace}
    (h : DataW.trod enc Try.prog w base spare held fuel 35 [v] = some x) : ∃ l, RdT w 1 boolC v l := by
  obtain ⟨l, hl, _⟩ := open_elems (good := fun _ => True) boolC_len Try.underlying35 cells_bool (fun n cs y h => by
    obtain ⟨k, e0, _⟩ := DataW.trod_bool Try.underlying4 h
    exact ⟨k, e0, trivial⟩) h
  exact ⟨l, hl⟩
end
section
variable {w : World} {gb : Hv.Gb} {W : Nat → Nat → Prop} {v : Value}
theorem rep_movs {l : List MovD} (hW : ∀ b o, ¬ W b o) (h : RdT w 5 movC v l) : Hv.Rep w W gb (.sl (l.map movI)) v :=
  Hv.rep_of_rd hW (fun _ => rfl) movC_len (fun a u hu => by simp only [movC, List.mem_cons, List.not_mem_nil, or_false] at hu; rcases hu with rfl | rfl | rfl | rfl | rfl <;> rfl) (by decide) h
theorem rep_bools {l : List Bool} (hW : ∀ b o, ¬ W b o) (h : RdT w 1 boolC v l) : Hv.Rep w W gb (.sl (l.map boolI)) v :=
  Hv.rep_of_rd hW (fun _ => rfl) boolC_len (fun a u hu => by simp only [boolC, List.mem_cons, List.not_mem_nil, or_false] at hu; rcases hu with rfl; rfl) (by decide) h
end
end Go.Proofs.Ytnaiaacgcjikiaa
