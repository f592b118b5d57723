/- The calls of chapter 12's rows: as the walks are told, and from what the rows read. -/
import Derived.Test.YtndojmpgadbefaaEpAges
import Derived.Test.YtndojmpgadbefaaElemsG
set_option linter.unusedVariables false
set_option linter.unusedSimpArgs false
namespace Go.Proofs.Ytndojmpgadbefaa
section
open Go Go.RowKit Hv
/-- A call of the row. -/
structure DayD where
  call : Int
  n : Int
  by' : Int
  data : ByteArray
def dayI (m : DayD) : List AV := [.lit (.int .i64 m.call), .lit (.int .i64 m.n), .lit (.int .i64 m.by'), .lit (.string m.data)]
theorem noId_days (l : List DayD) : NoId (.sl (l.map dayI)) := by simp [noId_sl, dayI, noId_lit]
end
open Go Go.RowKit Go.ChangeShapes Go.WideShapes
instance : Inhabited DayD := ⟨⟨0, 0, 0, ⟨#[]⟩⟩⟩
def dayC (x : DayD) : List Value := [.int .i64 x.call, .int .i64 x.n, .int .i64 x.by', .string x.data]
theorem dayC_len (x : DayD) : (dayC x).length = 4 := rfl
theorem cells_int : Try.prog.cellsOf 3 = 1 := by kernel_rfl
theorem cells_str : Try.prog.cellsOf 9 = 1 := by kernel_rfl
theorem cells_day : Try.prog.cellsOf 44 = 4 := by kernel_rfl
section
variable {H : Type} {enc : TypeId × Value → H} {w : World} {base : Nat} {spare : Nat → Bool} {held : Bool}
theorem read_day (n : Nat) (cs : List Value) (y : DataW H × List MemPlace)
    (h : DataW.trod enc Try.prog w base spare held n 44 cs = some y) : ∃ m, cs = dayC m ∧ True := by
  obtain ⟨xs, m, _, rfl, hl, hlen, hf⟩ := DataW.trod_struct Try.underlying44 h
  rw [cells_day] at hl
  obtain ⟨c0, c1, c2, c3, rfl⟩ := list4 hl
  obtain ⟨y0, y1, y2, y3, rfl⟩ := list4 hlen
  have h0 := hf 0 _ rfl
  have h1 := hf 1 _ rfl
  have h2 := hf 2 _ rfl
  have h3 := hf 3 _ rfl
  simp [cells_int, cells_str] at h0 h1 h2 h3
  obtain ⟨k0, e0, _, _⟩ := DataW.trod_int Try.underlying3 h0
  obtain ⟨k1, e1, _, _⟩ := DataW.trod_int Try.underlying3 h1
  obtain ⟨k2, e2, _, _⟩ := DataW.trod_int Try.underlying3 h2
  obtain ⟨k3, e3, _, _⟩ := DataW.trod_string Try.underlying9 h3
  simp only [List.cons.injEq, and_true] at e0 e1 e2 e3
  subst e0 e1 e2 e3
  exact ⟨⟨k0, k1, k2, k3⟩, rfl, trivial⟩
theorem open_days {fuel : Nat} {v : Value} {x : DataW H × List MemPlace}
    (h : DataW.trod enc Try.prog w base spare held fuel 22 [v] = some x) : ∃ l, RdT w 4 dayC v l := by
  obtain ⟨l, hl, _⟩ := open_elems (good := fun _ => True) dayC_len Try.underlying22 cells_day read_day h
  exact ⟨l, hl⟩
theorem sized_strD {t : TypeId} {y : DataW H × List MemPlace} {k : ByteArray} (hz : SizedD Try.prog t y.1) (e : y = (.lit (.string k.data.toList), [])) : k.size ≤ 140737488355328 := by
  rw [e] at hz
  exact Nat.le_trans (hz k.data.toList.length (by simp [DataW.weights])) (by decide)
theorem read_dayS (n : Nat) (cs : List Value) (y : DataW H × List MemPlace)
    (h : DataW.trod enc Try.prog w base spare held n 44 cs = some y) (hz : SizedD Try.prog 44 y.1) : ∃ m, cs = dayC m ∧ m.data.size ≤ 140737488355328 := by
  obtain ⟨xs, m, _, rfl, hl, hlen, hf⟩ := DataW.trod_struct Try.underlying44 h
  rw [cells_day] at hl
  obtain ⟨c0, c1, c2, c3, rfl⟩ := list4 hl
  obtain ⟨y0, y1, y2, y3, rfl⟩ := list4 hlen
  have hz3 := hz.field Try.underlying44 (j := 3) rfl rfl
  have h0 := hf 0 _ rfl
  have h1 := hf 1 _ rfl
  have h2 := hf 2 _ rfl
  have h3 := hf 3 _ rfl
  simp [cells_int, cells_str] at h0 h1 h2 h3
  obtain ⟨k0, e0, _, _⟩ := DataW.trod_int Try.underlying3 h0
  obtain ⟨k1, e1, _, _⟩ := DataW.trod_int Try.underlying3 h1
  obtain ⟨k2, e2, _, _⟩ := DataW.trod_int Try.underlying3 h2
  obtain ⟨k3, e3, q3, _⟩ := DataW.trod_string Try.underlying9 h3
  simp only [List.cons.injEq, and_true] at e0 e1 e2 e3
  subst e0 e1 e2 e3
  exact ⟨⟨k0, k1, k2, k3⟩, rfl, sized_strD hz3 q3⟩
theorem open_daysS {fuel : Nat} {v : Value} {x : DataW H × List MemPlace} (hz : SizedD Try.prog 22 x.1)
    (h : DataW.trod enc Try.prog w base spare held fuel 22 [v] = some x) : ∃ l, RdT w 4 dayC v l ∧ ∀ o ∈ l, o.data.size ≤ 140737488355328 := by
  obtain ⟨l, hl, hg, _⟩ := open_elemsS (good := fun o : DayD => o.data.size ≤ 140737488355328) dayC_len Try.underlying22 cells_day read_dayS hz h
  exact ⟨l, hl, hg⟩
end
section
variable {w : World} {gb : Hv.Gb} {W : Nat → Nat → Prop} {v : Value}
theorem rep_days {l : List DayD} (hW : ∀ b o, ¬ W b o) (h : RdT w 4 dayC v l) : Hv.Rep w W gb (.sl (l.map dayI)) v :=
  Hv.rep_of_rd hW (fun _ => rfl) dayC_len (fun a u hu => by simp only [dayC, List.mem_cons, List.not_mem_nil, or_false] at hu; rcases hu with rfl | rfl | rfl | rfl <;> rfl) (by decide) h
end
end Go.Proofs.Ytndojmpgadbefaa
