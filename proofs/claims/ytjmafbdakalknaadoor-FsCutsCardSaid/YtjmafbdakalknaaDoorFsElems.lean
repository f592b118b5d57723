/- From what the rows of chapter 7 read to what the walks are told. -/
import Derived.Test.YtjmafbdakalknaaDoorElemsG
import Derived.Test.YtjmafbdakalknaaDoorFsC
set_option linter.unusedVariables false
set_option linter.unusedSimpArgs false
namespace Go.Proofs.YtjmafbdakalknaaDoor
open Go Go.RowKit Go.ChangeShapes Go.WideShapes
def intC (a : Int) : List Value := [.int .i64 a]
theorem intC_len (a : Int) : (intC a).length = 1 := rfl
def strCC (a : ByteArray) : List Value := [.string a]
theorem strCC_len (a : ByteArray) : (strCC a).length = 1 := rfl
theorem cells_int : Tryd.prog.cellsOf 3 = 1 := by kernel_rfl
theorem cells_str : Tryd.prog.cellsOf 9 = 1 := by kernel_rfl
theorem cells_ints : Tryd.prog.cellsOf 22 = 1 := by kernel_rfl
theorem cells_deed : Tryd.prog.cellsOf 40 = 7 := by kernel_rfl
theorem bytes_int : Tryd.prog.bytesOf 3 = 8 := by kernel_rfl
structure DeedV where
  d : DeedD
  v : Value
instance : Inhabited DeedV := ⟨⟨⟨0, ⟨#[]⟩, ⟨#[]⟩, 0, 0, ⟨#[]⟩, []⟩, undef⟩⟩
def deedC (x : DeedV) : List Value := [.int .i64 x.d.call, .string x.d.name, .string x.d.dst, .int .i64 x.d.a, .int .i64 x.d.b, .string x.d.data, x.v]
theorem deedC_len (x : DeedV) : (deedC x).length = 7 := rfl
def DeedGood (w : World) (x : DeedV) : Prop := RdT w 1 intC x.v x.d.picks ∧ DeedOk x.d
section
variable {H : Type} {enc : TypeId × Value → H} {w : World} {base : Nat} {spare : Nat → Bool} {held : Bool}
theorem open_ints {fuel : Nat} {v : Value} {x : DataW H × List MemPlace} (hz : SizedD Tryd.prog 22 x.1)
    (h : DataW.trod enc Tryd.prog w base spare held fuel 22 [v] = some x) : ∃ l, RdT w 1 intC v l ∧ l.length * 8 ≤ 140737488355328 := by
  obtain ⟨l, hl, _, hs⟩ := open_elemsS (good := fun _ => True) intC_len Tryd.underlying22 cells_int (fun n cs y h _ => by
    obtain ⟨k, e0, _, _⟩ := DataW.trod_int Tryd.underlying3 h
    exact ⟨k, e0, trivial⟩) hz h
  rw [bytes_int] at hs
  exact ⟨l, hl, Nat.le_trans hs (by decide)⟩
theorem open_strs {fuel : Nat} {v : Value} {x : DataW H × List MemPlace} (hz : SizedD Tryd.prog 47 x.1)
    (h : DataW.trod enc Tryd.prog w base spare held fuel 47 [v] = some x) : ∃ l, RdT w 1 strCC v l ∧ ∀ s ∈ l, s.size ≤ 140737488355328 := by
  obtain ⟨l, hl, hs, _⟩ := open_elemsS (good := fun s : ByteArray => s.size ≤ 140737488355328) strCC_len Tryd.underlying47 cells_str (fun n cs y h hz => by
    obtain ⟨k, e0, e1, _⟩ := DataW.trod_string Tryd.underlying9 h
    refine ⟨k, e0, ?_⟩
    rw [e1] at hz
    have hz := hz k.data.toList.length (by simp [DataW.weights])
    exact Nat.le_trans hz (by decide)) hz h
  exact ⟨l, hl, hs⟩
theorem sized_str {t : TypeId} {y : DataW H × List MemPlace} {k : ByteArray} (hz : SizedD Tryd.prog t y.1) (e : y = (.lit (.string k.data.toList), [])) : k.size ≤ 140737488355328 := by
  rw [e] at hz
  exact Nat.le_trans (hz k.data.toList.length (by simp [DataW.weights])) (by decide)
theorem read_deed (n : Nat) (cs : List Value) (y : DataW H × List MemPlace)
    (h : DataW.trod enc Tryd.prog w base spare held n 40 cs = some y) (hz : SizedD Tryd.prog 40 y.1) : ∃ m, cs = deedC m ∧ DeedGood w m := by
  obtain ⟨xs, m, _, rfl, hl, hlen, hf⟩ := DataW.trod_struct Tryd.underlying40 h
  rw [cells_deed] at hl
  obtain ⟨c0, c1, c2, c3, c4, c5, c6, rfl⟩ := list7 hl
  obtain ⟨y0, y1, y2, y3, y4, y5, y6, rfl⟩ := list7 hlen
  have hz1 := hz.field Tryd.underlying40 (j := 1) rfl rfl
  have hz2 := hz.field Tryd.underlying40 (j := 2) rfl rfl
  have hz5 := hz.field Tryd.underlying40 (j := 5) rfl rfl
  have hz6 := hz.field Tryd.underlying40 (j := 6) rfl rfl
  have h0 := hf 0 _ rfl
  have h1 := hf 1 _ rfl
  have h2 := hf 2 _ rfl
  have h3 := hf 3 _ rfl
  have h4 := hf 4 _ rfl
  have h5 := hf 5 _ rfl
  have h6 := hf 6 _ rfl
  simp [cells_int, cells_str, cells_ints] at h0 h1 h2 h3 h4 h5 h6
  obtain ⟨k0, e0, _, _⟩ := DataW.trod_int Tryd.underlying3 h0
  obtain ⟨k1, e1, q1, _⟩ := DataW.trod_string Tryd.underlying9 h1
  obtain ⟨k2, e2, q2, _⟩ := DataW.trod_string Tryd.underlying9 h2
  obtain ⟨k3, e3, _, w3⟩ := DataW.trod_int Tryd.underlying3 h3
  obtain ⟨k4, e4, _, w4⟩ := DataW.trod_int Tryd.underlying3 h4
  obtain ⟨k5, e5, q5, _⟩ := DataW.trod_string Tryd.underlying9 h5
  obtain ⟨l, hpl, hs⟩ := open_ints hz6 h6
  simp at e0 e1 e2 e3 e4 e5
  subst e0 e1 e2 e3 e4 e5
  exact ⟨⟨⟨k0, k1, k2, k3, k4, k5, l⟩, c6⟩, rfl, hpl, hs, bounds_i64 w3, bounds_i64 w4, sized_str hz1 q1, sized_str hz2 q2, sized_str hz5 q5⟩
theorem open_deeds {fuel : Nat} {v : Value} {x : DataW H × List MemPlace} (hz : SizedD Tryd.prog 36 x.1)
    (h : DataW.trod enc Tryd.prog w base spare held fuel 36 [v] = some x) : ∃ l, RdT w 7 deedC v l ∧ ∀ a ∈ l, DeedGood w a := by
  obtain ⟨l, hl, hg, _⟩ := open_elemsS (good := DeedGood w) deedC_len Tryd.underlying36 cells_deed read_deed hz h
  exact ⟨l, hl, hg⟩
end
section
variable {w : World} {gb : Hv.Gb} {W : Nat → Nat → Prop} {v : Value}
theorem intC_one (a : Int) : ∀ u ∈ intC a, u.oneCell' = true := by
  intro u hu
  simp only [intC, List.mem_singleton] at hu
  subst hu; rfl
theorem strCC_one (a : ByteArray) : ∀ u ∈ strCC a, u.oneCell' = true := by
  intro u hu
  simp only [strCC, List.mem_singleton] at hu
  subst hu; rfl
theorem rep_ints {l : List Int} (hW : ∀ b o, ¬ W b o) (h : RdT w 1 intC v l) : Hv.Rep w W gb (.sl (l.map intI)) v :=
  Hv.rep_of_rd hW (fun _ => rfl) intC_len intC_one (by decide) h
theorem rep_strs {l : List ByteArray} (hW : ∀ b o, ¬ W b o) (h : RdT w 1 strCC v l) : Hv.Rep w W gb (.sl (l.map strI)) v :=
  Hv.rep_of_rd hW (fun _ => rfl) strCC_len strCC_one (by decide) h
theorem rep_deed {x : DeedV} (hW : ∀ b o, ¬ W b o) (h : DeedGood w x) : (∀ u ∈ deedC x, u.oneCell' = true) ∧ ∀ (k : Nat) (a : Hv.AV) (u : Value), (deedI x.d)[k]? = some a → (deedC x)[k]? = some u → Hv.Rep w W gb a u := by
  refine ⟨fun u hu => ?_, ?_⟩
  · simp only [deedC, List.mem_cons, List.not_mem_nil, or_false] at hu
    rcases hu with rfl | rfl | rfl | rfl | rfl | rfl | rfl
    · rfl
    · rfl
    · rfl
    · rfl
    · rfl
    · rfl
    · exact Hv.RdT.one h.1
  · exact Hv.reps_cons (.lit _) (Hv.reps_cons (.lit _) (Hv.reps_cons (.lit _) (Hv.reps_cons (.lit _) (Hv.reps_cons (.lit _) (Hv.reps_cons (.lit _) (Hv.reps_cons (rep_ints hW h.1) Hv.reps_nil))))))
theorem rep_deeds {l : List DeedV} (hW : ∀ b o, ¬ W b o) (h : RdT w 7 deedC v l) (hg : ∀ a ∈ l, DeedGood w a) : Hv.Rep w W gb (.sl ((l.map DeedV.d).map deedI)) v := by
  rw [List.map_map]
  exact Hv.rep_of_rdN hW (fun _ => rfl) deedC_len (fun a ha => (rep_deed (gb := gb) hW (hg a ha)).1) (fun a ha => (rep_deed hW (hg a ha)).2) (by decide) h
theorem deeds_few {l : List DeedV} (hg : ∀ a ∈ l, DeedGood w a) : ∀ d ∈ l.map DeedV.d, DeedOk d := by
  intro d hd
  obtain ⟨a, ha, rfl⟩ := List.mem_map.1 hd
  exact (hg a ha).2
end
end Go.Proofs.YtjmafbdakalknaaDoor
