/- The table of types that the walk over an abstract heap looks up. -/
import Derived.Test.YtpemfmlonamikaaProg
import Derived.Test.YtpemfmlonamikaaHvEq16
namespace Go.Proofs.Ytpemfmlonamikaa.Hv
open Go Go.RowKit
def T : Tbl where
  sls := [(22, ⟨36, 4, 48, .agg #[.string ⟨#[]⟩, .int .i64 0, .int .i64 0, .string ⟨#[]⟩]⟩), (23, ⟨3, 1, 8, .int .i64 0⟩), (30, ⟨61, 2, 32, .agg #[.string ⟨#[]⟩, .string ⟨#[]⟩]⟩), (39, ⟨22, 1, 24, .slice none 0 0⟩), (48, ⟨5, 1, 1, .int .u8 0⟩)]
  szs := [(3, none), (4, none), (5, none), (9, none), (22, none), (23, none), (26, none), (30, none), (34, some 3), (36, some 4), (37, none), (39, none), (42, some 4), (48, none), (61, some 2), (67, none), (72, none), (80, none), (83, none), (87, none), (89, none)]
  flds := [(34, [(0, 0), (1, 1), (2, 2)]), (36, [(0, 0), (1, 3)]), (42, [(0, 0), (1, 1), (2, 2), (3, 3)]), (61, [(0, 0), (1, 1)])]
  ints := [(3, .i64), (5, .u8), (26, .i64), (37, .u64), (67, .u64), (72, .i64), (80, .u32), (83, .u64)]
  strs := [9]
  zeros := [(3, .int .i64 0), (4, .bool false), (5, .int .u8 0), (9, .string ⟨#[]⟩), (22, .slice none 0 0), (23, .slice none 0 0), (26, .int .i64 0), (30, .slice none 0 0), (34, .agg #[.string ⟨#[]⟩, .int .i64 0, .int .i64 0]), (36, .agg #[.string ⟨#[]⟩, .int .i64 0, .int .i64 0, .string ⟨#[]⟩]), (37, .int .u64 0), (39, .slice none 0 0), (42, .agg #[.slice none 0 0, .slice none 0 0, .int .i64 0, .bool false]), (48, .slice none 0 0), (61, .agg #[.string ⟨#[]⟩, .string ⟨#[]⟩]), (67, .int .u64 0), (72, .int .i64 0), (80, .int .u32 0), (83, .int .u64 0), (87, .pointer none), (89, .pointer none)]
  fszs := [(34, [(0, 1), (1, 1), (2, 1)]), (36, [(0, 3), (3, 1)]), (42, [(0, 1), (1, 1), (2, 1), (3, 1)]), (61, [(0, 1), (1, 1)])]
  eqs := [(34, eqVer), (36, eqCell), (61, eqPair)]
  ptrs := [87, 89]
  bools := [4]
  arrs := []
  byts := [48]
  maps := []
set_option maxRecDepth 20000 in
theorem TOk : T.Ok Try.prog where
  sls := List.forall_mem_cons.2 ⟨ElemT.mk' (by kernel_rfl) (by kernel_rfl) rfl (by decide) (by decide), List.forall_mem_cons.2 ⟨ElemT.mk' (by kernel_rfl) (by kernel_rfl) rfl (by decide) (by decide), List.forall_mem_cons.2 ⟨ElemT.mk' (by kernel_rfl) (by kernel_rfl) rfl (by decide) (by decide), List.forall_mem_cons.2 ⟨ElemT.mk' (by kernel_rfl) (by kernel_rfl) rfl (by decide) (by decide), List.forall_mem_cons.2 ⟨ElemT.mk' (by kernel_rfl) (by kernel_rfl) rfl (by decide) (by decide), fun _ h => absurd h List.not_mem_nil⟩⟩⟩⟩⟩
  szs := List.forall_mem_cons.2 ⟨⟨by kernel_rfl, by kernel_rfl⟩, List.forall_mem_cons.2 ⟨⟨by kernel_rfl, by kernel_rfl⟩, List.forall_mem_cons.2 ⟨⟨by kernel_rfl, by kernel_rfl⟩, List.forall_mem_cons.2 ⟨⟨by kernel_rfl, by kernel_rfl⟩, List.forall_mem_cons.2 ⟨⟨by kernel_rfl, by kernel_rfl⟩, List.forall_mem_cons.2 ⟨⟨by kernel_rfl, by kernel_rfl⟩, List.forall_mem_cons.2 ⟨⟨by kernel_rfl, by kernel_rfl⟩, List.forall_mem_cons.2 ⟨⟨by kernel_rfl, by kernel_rfl⟩, List.forall_mem_cons.2 ⟨⟨by kernel_rfl, by kernel_rfl⟩, List.forall_mem_cons.2 ⟨⟨by kernel_rfl, by kernel_rfl⟩, List.forall_mem_cons.2 ⟨⟨by kernel_rfl, by kernel_rfl⟩, List.forall_mem_cons.2 ⟨⟨by kernel_rfl, by kernel_rfl⟩, List.forall_mem_cons.2 ⟨⟨by kernel_rfl, by kernel_rfl⟩, List.forall_mem_cons.2 ⟨⟨by kernel_rfl, by kernel_rfl⟩, List.forall_mem_cons.2 ⟨⟨by kernel_rfl, by kernel_rfl⟩, List.forall_mem_cons.2 ⟨⟨by kernel_rfl, by kernel_rfl⟩, List.forall_mem_cons.2 ⟨⟨by kernel_rfl, by kernel_rfl⟩, List.forall_mem_cons.2 ⟨⟨by kernel_rfl, by kernel_rfl⟩, List.forall_mem_cons.2 ⟨⟨by kernel_rfl, by kernel_rfl⟩, List.forall_mem_cons.2 ⟨⟨by kernel_rfl, by kernel_rfl⟩, List.forall_mem_cons.2 ⟨⟨by kernel_rfl, by kernel_rfl⟩, fun _ h => absurd h List.not_mem_nil⟩⟩⟩⟩⟩⟩⟩⟩⟩⟩⟩⟩⟩⟩⟩⟩⟩⟩⟩⟩⟩
  flds := List.forall_mem_cons.2 ⟨(List.forall_mem_cons.2 ⟨by kernel_rfl, List.forall_mem_cons.2 ⟨by kernel_rfl, List.forall_mem_cons.2 ⟨by kernel_rfl, fun _ h => absurd h List.not_mem_nil⟩⟩⟩), List.forall_mem_cons.2 ⟨(List.forall_mem_cons.2 ⟨by kernel_rfl, List.forall_mem_cons.2 ⟨by kernel_rfl, fun _ h => absurd h List.not_mem_nil⟩⟩), List.forall_mem_cons.2 ⟨(List.forall_mem_cons.2 ⟨by kernel_rfl, List.forall_mem_cons.2 ⟨by kernel_rfl, List.forall_mem_cons.2 ⟨by kernel_rfl, List.forall_mem_cons.2 ⟨by kernel_rfl, fun _ h => absurd h List.not_mem_nil⟩⟩⟩⟩), List.forall_mem_cons.2 ⟨(List.forall_mem_cons.2 ⟨by kernel_rfl, List.forall_mem_cons.2 ⟨by kernel_rfl, fun _ h => absurd h List.not_mem_nil⟩⟩), fun _ h => absurd h List.not_mem_nil⟩⟩⟩⟩
  ints := List.forall_mem_cons.2 ⟨by kernel_rfl, List.forall_mem_cons.2 ⟨by kernel_rfl, List.forall_mem_cons.2 ⟨by kernel_rfl, List.forall_mem_cons.2 ⟨by kernel_rfl, List.forall_mem_cons.2 ⟨by kernel_rfl, List.forall_mem_cons.2 ⟨by kernel_rfl, List.forall_mem_cons.2 ⟨by kernel_rfl, List.forall_mem_cons.2 ⟨by kernel_rfl, fun _ h => absurd h List.not_mem_nil⟩⟩⟩⟩⟩⟩⟩⟩
  strs := List.forall_mem_cons.2 ⟨by kernel_rfl, fun _ h => absurd h List.not_mem_nil⟩
  zeros := List.forall_mem_cons.2 ⟨by unfold okZero; kernel_rfl, List.forall_mem_cons.2 ⟨by unfold okZero; kernel_rfl, List.forall_mem_cons.2 ⟨by unfold okZero; kernel_rfl, List.forall_mem_cons.2 ⟨by unfold okZero; kernel_rfl, List.forall_mem_cons.2 ⟨by unfold okZero; kernel_rfl, List.forall_mem_cons.2 ⟨by unfold okZero; kernel_rfl, List.forall_mem_cons.2 ⟨by unfold okZero; kernel_rfl, List.forall_mem_cons.2 ⟨by unfold okZero; kernel_rfl, List.forall_mem_cons.2 ⟨by unfold okZero; kernel_rfl, List.forall_mem_cons.2 ⟨by unfold okZero; kernel_rfl, List.forall_mem_cons.2 ⟨by unfold okZero; kernel_rfl, List.forall_mem_cons.2 ⟨by unfold okZero; kernel_rfl, List.forall_mem_cons.2 ⟨by unfold okZero; kernel_rfl, List.forall_mem_cons.2 ⟨by unfold okZero; kernel_rfl, List.forall_mem_cons.2 ⟨by unfold okZero; kernel_rfl, List.forall_mem_cons.2 ⟨by unfold okZero; kernel_rfl, List.forall_mem_cons.2 ⟨by unfold okZero; kernel_rfl, List.forall_mem_cons.2 ⟨by unfold okZero; kernel_rfl, List.forall_mem_cons.2 ⟨by unfold okZero; kernel_rfl, List.forall_mem_cons.2 ⟨by unfold okZero; kernel_rfl, List.forall_mem_cons.2 ⟨by unfold okZero; kernel_rfl, fun _ h => absurd h List.not_mem_nil⟩⟩⟩⟩⟩⟩⟩⟩⟩⟩⟩⟩⟩⟩⟩⟩⟩⟩⟩⟩⟩
  fszs := List.forall_mem_cons.2 ⟨by unfold okFsz; kernel_rfl, List.forall_mem_cons.2 ⟨by unfold okFsz; kernel_rfl, List.forall_mem_cons.2 ⟨by unfold okFsz; kernel_rfl, List.forall_mem_cons.2 ⟨by unfold okFsz; kernel_rfl, fun _ h => absurd h List.not_mem_nil⟩⟩⟩⟩
  eqs := List.forall_mem_cons.2 ⟨eqVer_ok, List.forall_mem_cons.2 ⟨eqCell_ok, List.forall_mem_cons.2 ⟨eqPair_ok, fun _ h => absurd h List.not_mem_nil⟩⟩⟩
  ptrs := List.forall_mem_cons.2 ⟨by unfold okPtr; kernel_rfl, List.forall_mem_cons.2 ⟨by unfold okPtr; kernel_rfl, fun _ h => absurd h List.not_mem_nil⟩⟩
  bools := List.forall_mem_cons.2 ⟨by kernel_rfl, fun _ h => absurd h List.not_mem_nil⟩
  arrs := fun _ h => absurd h List.not_mem_nil
  byts := List.forall_mem_cons.2 ⟨⟨5, by kernel_rfl, by kernel_rfl, by kernel_rfl⟩, fun _ h => absurd h List.not_mem_nil⟩
  maps := fun _ h => absurd h List.not_mem_nil
theorem zeros3 : lk? T.zeros 3 = some (.int .i64 0) := rfl
theorem zeros4 : lk? T.zeros 4 = some (.bool false) := rfl
theorem zeros5 : lk? T.zeros 5 = some (.int .u8 0) := rfl
theorem zeros9 : lk? T.zeros 9 = some (.string ⟨#[]⟩) := rfl
theorem zeros22 : lk? T.zeros 22 = some (.slice none 0 0) := rfl
theorem zeros23 : lk? T.zeros 23 = some (.slice none 0 0) := rfl
theorem zeros26 : lk? T.zeros 26 = some (.int .i64 0) := rfl
theorem zeros30 : lk? T.zeros 30 = some (.slice none 0 0) := rfl
theorem zeros34 : lk? T.zeros 34 = some (.agg #[.string ⟨#[]⟩, .int .i64 0, .int .i64 0]) := rfl
theorem zeros36 : lk? T.zeros 36 = some (.agg #[.string ⟨#[]⟩, .int .i64 0, .int .i64 0, .string ⟨#[]⟩]) := rfl
theorem zeros37 : lk? T.zeros 37 = some (.int .u64 0) := rfl
theorem zeros39 : lk? T.zeros 39 = some (.slice none 0 0) := rfl
theorem zeros42 : lk? T.zeros 42 = some (.agg #[.slice none 0 0, .slice none 0 0, .int .i64 0, .bool false]) := rfl
theorem zeros48 : lk? T.zeros 48 = some (.slice none 0 0) := rfl
theorem zeros61 : lk? T.zeros 61 = some (.agg #[.string ⟨#[]⟩, .string ⟨#[]⟩]) := rfl
theorem zeros67 : lk? T.zeros 67 = some (.int .u64 0) := rfl
theorem zeros72 : lk? T.zeros 72 = some (.int .i64 0) := rfl
theorem zeros80 : lk? T.zeros 80 = some (.int .u32 0) := rfl
theorem zeros83 : lk? T.zeros 83 = some (.int .u64 0) := rfl
theorem zeros87 : lk? T.zeros 87 = some (.pointer none) := rfl
theorem zeros89 : lk? T.zeros 89 = some (.pointer none) := rfl
theorem fszs34 : lk? T.fszs 34 = some [(0, 1), (1, 1), (2, 1)] := rfl
theorem fszs36 : lk? T.fszs 36 = some [(0, 3), (3, 1)] := rfl
theorem fszs42 : lk? T.fszs 42 = some [(0, 1), (1, 1), (2, 1), (3, 1)] := rfl
theorem fszs61 : lk? T.fszs 61 = some [(0, 1), (1, 1)] := rfl
theorem eqs34 : lk? T.eqs 34 = some eqVer := rfl
theorem eqs36 : lk? T.eqs 36 = some eqCell := rfl
theorem eqs61 : lk? T.eqs 61 = some eqPair := rfl
theorem sls22 : lk? T.sls 22 = some ⟨36, 4, 48, .agg #[.string ⟨#[]⟩, .int .i64 0, .int .i64 0, .string ⟨#[]⟩]⟩ := rfl
theorem sls23 : lk? T.sls 23 = some ⟨3, 1, 8, .int .i64 0⟩ := rfl
theorem sls30 : lk? T.sls 30 = some ⟨61, 2, 32, .agg #[.string ⟨#[]⟩, .string ⟨#[]⟩]⟩ := rfl
theorem sls39 : lk? T.sls 39 = some ⟨22, 1, 24, .slice none 0 0⟩ := rfl
theorem sls48 : lk? T.sls 48 = some ⟨5, 1, 1, .int .u8 0⟩ := rfl
theorem szs3 : lk? T.szs 3 = some none := rfl
theorem szs4 : lk? T.szs 4 = some none := rfl
theorem szs5 : lk? T.szs 5 = some none := rfl
theorem szs9 : lk? T.szs 9 = some none := rfl
theorem szs22 : lk? T.szs 22 = some none := rfl
theorem szs23 : lk? T.szs 23 = some none := rfl
theorem szs26 : lk? T.szs 26 = some none := rfl
theorem szs30 : lk? T.szs 30 = some none := rfl
theorem szs34 : lk? T.szs 34 = some (some 3) := rfl
theorem szs36 : lk? T.szs 36 = some (some 4) := rfl
theorem szs37 : lk? T.szs 37 = some none := rfl
theorem szs39 : lk? T.szs 39 = some none := rfl
theorem szs42 : lk? T.szs 42 = some (some 4) := rfl
theorem szs48 : lk? T.szs 48 = some none := rfl
theorem szs61 : lk? T.szs 61 = some (some 2) := rfl
theorem szs67 : lk? T.szs 67 = some none := rfl
theorem szs72 : lk? T.szs 72 = some none := rfl
theorem szs80 : lk? T.szs 80 = some none := rfl
theorem szs83 : lk? T.szs 83 = some none := rfl
theorem szs87 : lk? T.szs 87 = some none := rfl
theorem szs89 : lk? T.szs 89 = some none := rfl
theorem fld34_0 : T.fld 34 0 = some 0 := rfl
theorem fld34_1 : T.fld 34 1 = some 1 := rfl
theorem fld34_2 : T.fld 34 2 = some 2 := rfl
theorem fld36_0 : T.fld 36 0 = some 0 := rfl
theorem fld36_1 : T.fld 36 1 = some 3 := rfl
theorem fld42_0 : T.fld 42 0 = some 0 := rfl
theorem fld42_1 : T.fld 42 1 = some 1 := rfl
theorem fld42_2 : T.fld 42 2 = some 2 := rfl
theorem fld42_3 : T.fld 42 3 = some 3 := rfl
theorem fld61_0 : T.fld 61 0 = some 0 := rfl
theorem fld61_1 : T.fld 61 1 = some 1 := rfl
theorem ints3 : lk? T.ints 3 = some .i64 := rfl
theorem ints5 : lk? T.ints 5 = some .u8 := rfl
theorem ints26 : lk? T.ints 26 = some .i64 := rfl
theorem ints37 : lk? T.ints 37 = some .u64 := rfl
theorem ints67 : lk? T.ints 67 = some .u64 := rfl
theorem ints72 : lk? T.ints 72 = some .i64 := rfl
theorem ints80 : lk? T.ints 80 = some .u32 := rfl
theorem ints83 : lk? T.ints 83 = some .u64 := rfl
theorem strs9 : T.strs.elem 9 = true := rfl
theorem ptrs87 : T.ptrs.elem 87 = true := rfl
theorem ptrs89 : T.ptrs.elem 89 = true := rfl
theorem bools4 : T.bools.elem 4 = true := rfl
theorem nptr4 : T.ptrs.elem 4 = false := rfl
theorem byts48 : T.byts.elem 48 = true := rfl
theorem narr0 : lk? T.arrs 0 = none := rfl
theorem nint0 : lk? T.ints 0 = none := rfl
theorem nsls0 : lk? T.sls 0 = none := rfl
theorem nstr0 : T.strs.elem 0 = false := rfl
theorem nbyt0 : T.byts.elem 0 = false := rfl
theorem narr3 : lk? T.arrs 3 = none := rfl
theorem nsls3 : lk? T.sls 3 = none := rfl
theorem nstr3 : T.strs.elem 3 = false := rfl
theorem nbyt3 : T.byts.elem 3 = false := rfl
theorem narr4 : lk? T.arrs 4 = none := rfl
theorem nint4 : lk? T.ints 4 = none := rfl
theorem nsls4 : lk? T.sls 4 = none := rfl
theorem nstr4 : T.strs.elem 4 = false := rfl
theorem nbyt4 : T.byts.elem 4 = false := rfl
theorem narr5 : lk? T.arrs 5 = none := rfl
theorem nsls5 : lk? T.sls 5 = none := rfl
theorem nstr5 : T.strs.elem 5 = false := rfl
theorem nbyt5 : T.byts.elem 5 = false := rfl
theorem narr9 : lk? T.arrs 9 = none := rfl
theorem nint9 : lk? T.ints 9 = none := rfl
theorem nsls9 : lk? T.sls 9 = none := rfl
theorem nbyt9 : T.byts.elem 9 = false := rfl
theorem narr22 : lk? T.arrs 22 = none := rfl
theorem nint22 : lk? T.ints 22 = none := rfl
theorem nstr22 : T.strs.elem 22 = false := rfl
theorem nbyt22 : T.byts.elem 22 = false := rfl
theorem narr23 : lk? T.arrs 23 = none := rfl
theorem nint23 : lk? T.ints 23 = none := rfl
theorem nstr23 : T.strs.elem 23 = false := rfl
theorem nbyt23 : T.byts.elem 23 = false := rfl
theorem narr26 : lk? T.arrs 26 = none := rfl
theorem nsls26 : lk? T.sls 26 = none := rfl
theorem nstr26 : T.strs.elem 26 = false := rfl
theorem nbyt26 : T.byts.elem 26 = false := rfl
theorem narr27 : lk? T.arrs 27 = none := rfl
theorem nint27 : lk? T.ints 27 = none := rfl
theorem nsls27 : lk? T.sls 27 = none := rfl
theorem nstr27 : T.strs.elem 27 = false := rfl
theorem nbyt27 : T.byts.elem 27 = false := rfl
theorem narr30 : lk? T.arrs 30 = none := rfl
theorem nint30 : lk? T.ints 30 = none := rfl
theorem nstr30 : T.strs.elem 30 = false := rfl
theorem nbyt30 : T.byts.elem 30 = false := rfl
theorem narr34 : lk? T.arrs 34 = none := rfl
theorem nint34 : lk? T.ints 34 = none := rfl
theorem nsls34 : lk? T.sls 34 = none := rfl
theorem nstr34 : T.strs.elem 34 = false := rfl
theorem nbyt34 : T.byts.elem 34 = false := rfl
theorem narr36 : lk? T.arrs 36 = none := rfl
theorem nint36 : lk? T.ints 36 = none := rfl
theorem nsls36 : lk? T.sls 36 = none := rfl
theorem nstr36 : T.strs.elem 36 = false := rfl
theorem nbyt36 : T.byts.elem 36 = false := rfl
theorem narr37 : lk? T.arrs 37 = none := rfl
theorem nsls37 : lk? T.sls 37 = none := rfl
theorem nstr37 : T.strs.elem 37 = false := rfl
theorem nbyt37 : T.byts.elem 37 = false := rfl
theorem narr39 : lk? T.arrs 39 = none := rfl
theorem nint39 : lk? T.ints 39 = none := rfl
theorem nstr39 : T.strs.elem 39 = false := rfl
theorem nbyt39 : T.byts.elem 39 = false := rfl
theorem narr42 : lk? T.arrs 42 = none := rfl
theorem nint42 : lk? T.ints 42 = none := rfl
theorem nsls42 : lk? T.sls 42 = none := rfl
theorem nstr42 : T.strs.elem 42 = false := rfl
theorem nbyt42 : T.byts.elem 42 = false := rfl
theorem narr45 : lk? T.arrs 45 = none := rfl
theorem nint45 : lk? T.ints 45 = none := rfl
theorem nsls45 : lk? T.sls 45 = none := rfl
theorem nstr45 : T.strs.elem 45 = false := rfl
theorem nbyt45 : T.byts.elem 45 = false := rfl
theorem narr48 : lk? T.arrs 48 = none := rfl
theorem nint48 : lk? T.ints 48 = none := rfl
theorem nstr48 : T.strs.elem 48 = false := rfl
theorem narr50 : lk? T.arrs 50 = none := rfl
theorem nint50 : lk? T.ints 50 = none := rfl
theorem nsls50 : lk? T.sls 50 = none := rfl
theorem nstr50 : T.strs.elem 50 = false := rfl
theorem nbyt50 : T.byts.elem 50 = false := rfl
theorem narr61 : lk? T.arrs 61 = none := rfl
theorem nint61 : lk? T.ints 61 = none := rfl
theorem nsls61 : lk? T.sls 61 = none := rfl
theorem nstr61 : T.strs.elem 61 = false := rfl
theorem nbyt61 : T.byts.elem 61 = false := rfl
theorem narr67 : lk? T.arrs 67 = none := rfl
theorem nsls67 : lk? T.sls 67 = none := rfl
theorem nstr67 : T.strs.elem 67 = false := rfl
theorem nbyt67 : T.byts.elem 67 = false := rfl
theorem narr68 : lk? T.arrs 68 = none := rfl
theorem nint68 : lk? T.ints 68 = none := rfl
theorem nsls68 : lk? T.sls 68 = none := rfl
theorem nstr68 : T.strs.elem 68 = false := rfl
theorem nbyt68 : T.byts.elem 68 = false := rfl
theorem narr72 : lk? T.arrs 72 = none := rfl
theorem nsls72 : lk? T.sls 72 = none := rfl
theorem nstr72 : T.strs.elem 72 = false := rfl
theorem nbyt72 : T.byts.elem 72 = false := rfl
theorem narr73 : lk? T.arrs 73 = none := rfl
theorem nint73 : lk? T.ints 73 = none := rfl
theorem nsls73 : lk? T.sls 73 = none := rfl
theorem nstr73 : T.strs.elem 73 = false := rfl
theorem nbyt73 : T.byts.elem 73 = false := rfl
theorem narr80 : lk? T.arrs 80 = none := rfl
theorem nsls80 : lk? T.sls 80 = none := rfl
theorem nstr80 : T.strs.elem 80 = false := rfl
theorem nbyt80 : T.byts.elem 80 = false := rfl
theorem narr83 : lk? T.arrs 83 = none := rfl
theorem nsls83 : lk? T.sls 83 = none := rfl
theorem nstr83 : T.strs.elem 83 = false := rfl
theorem nbyt83 : T.byts.elem 83 = false := rfl
theorem narr87 : lk? T.arrs 87 = none := rfl
theorem nint87 : lk? T.ints 87 = none := rfl
theorem nsls87 : lk? T.sls 87 = none := rfl
theorem nstr87 : T.strs.elem 87 = false := rfl
theorem nbyt87 : T.byts.elem 87 = false := rfl
theorem narr89 : lk? T.arrs 89 = none := rfl
theorem nint89 : lk? T.ints 89 = none := rfl
theorem nsls89 : lk? T.sls 89 = none := rfl
theorem nstr89 : T.strs.elem 89 = false := rfl
theorem nbyt89 : T.byts.elem 89 = false := rfl
theorem narr90 : lk? T.arrs 90 = none := rfl
theorem nint90 : lk? T.ints 90 = none := rfl
theorem nsls90 : lk? T.sls 90 = none := rfl
theorem nstr90 : T.strs.elem 90 = false := rfl
theorem nbyt90 : T.byts.elem 90 = false := rfl
theorem mixed : Try.prog.follows .mixedOrders = true := by kernel_rfl
end Go.Proofs.Ytpemfmlonamikaa.Hv
