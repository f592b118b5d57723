/- The table of types that the abstract walk looks up. -/
import Derived.Test.YtpemfmlonamikaaProg
import Derived.Test.YtpemfmlonamikaaAvEq16
namespace Go.Proofs.Ytpemfmlonamikaa.Av
open Go Go.RowKit
def T : Tbl where
  sls := [(22, ⟨36, 4, 48, .agg #[.string ⟨#[]⟩, .int .i64 0, .int .i64 0, .string ⟨#[]⟩]⟩), (23, ⟨3, 1, 8, .int .i64 0⟩), (30, ⟨61, 2, 32, .agg #[.string ⟨#[]⟩, .string ⟨#[]⟩]⟩), (39, ⟨22, 1, 24, .slice none 0 0⟩), (48, ⟨5, 1, 1, .int .u8 0⟩)]
  szs := [(3, none), (4, none), (5, none), (9, none), (22, none), (23, none), (26, none), (30, none), (34, some 3), (36, some 4), (37, none), (39, none), (42, some 4), (48, none), (61, some 2), (67, none), (72, none), (80, none), (83, none), (87, none), (89, none)]
  flds := [(34, [(0, 0), (1, 1), (2, 2)]), (36, [(0, 0), (1, 3)]), (42, [(0, 0), (1, 1), (2, 2), (3, 3)]), (61, [(0, 0), (1, 1)])]
  ints := [(3, .i64), (5, .u8), (26, .i64), (37, .u64), (67, .u64), (72, .i64), (80, .u32), (83, .u64)]
  strs := [9]
  zeros := [(34, .agg #[.string ⟨#[]⟩, .int .i64 0, .int .i64 0]), (36, .agg #[.string ⟨#[]⟩, .int .i64 0, .int .i64 0, .string ⟨#[]⟩]), (42, .agg #[.slice none 0 0, .slice none 0 0, .int .i64 0, .bool false]), (61, .agg #[.string ⟨#[]⟩, .string ⟨#[]⟩])]
  fszs := [(34, [(0, 1), (1, 1), (2, 1)]), (36, [(0, 3), (3, 1)]), (42, [(0, 1), (1, 1), (2, 1), (3, 1)]), (61, [(0, 1), (1, 1)])]
  eqs := [(34, eqVer), (36, eqCell), (61, eqPair)]
set_option maxRecDepth 20000 in
theorem TOk : T.Ok Try.prog where
  sls := List.forall_mem_cons.2 ⟨ElemT.mk' (by kernel_rfl) (by kernel_rfl) rfl (by decide) (by decide), List.forall_mem_cons.2 ⟨ElemT.mk' (by kernel_rfl) (by kernel_rfl) rfl (by decide) (by decide), List.forall_mem_cons.2 ⟨ElemT.mk' (by kernel_rfl) (by kernel_rfl) rfl (by decide) (by decide), List.forall_mem_cons.2 ⟨ElemT.mk' (by kernel_rfl) (by kernel_rfl) rfl (by decide) (by decide), List.forall_mem_cons.2 ⟨ElemT.mk' (by kernel_rfl) (by kernel_rfl) rfl (by decide) (by decide), fun _ h => absurd h List.not_mem_nil⟩⟩⟩⟩⟩
  szs := List.forall_mem_cons.2 ⟨⟨by kernel_rfl, by kernel_rfl⟩, List.forall_mem_cons.2 ⟨⟨by kernel_rfl, by kernel_rfl⟩, List.forall_mem_cons.2 ⟨⟨by kernel_rfl, by kernel_rfl⟩, List.forall_mem_cons.2 ⟨⟨by kernel_rfl, by kernel_rfl⟩, List.forall_mem_cons.2 ⟨⟨by kernel_rfl, by kernel_rfl⟩, List.forall_mem_cons.2 ⟨⟨by kernel_rfl, by kernel_rfl⟩, List.forall_mem_cons.2 ⟨⟨by kernel_rfl, by kernel_rfl⟩, List.forall_mem_cons.2 ⟨⟨by kernel_rfl, by kernel_rfl⟩, List.forall_mem_cons.2 ⟨⟨by kernel_rfl, by kernel_rfl⟩, List.forall_mem_cons.2 ⟨⟨by kernel_rfl, by kernel_rfl⟩, List.forall_mem_cons.2 ⟨⟨by kernel_rfl, by kernel_rfl⟩, List.forall_mem_cons.2 ⟨⟨by kernel_rfl, by kernel_rfl⟩, List.forall_mem_cons.2 ⟨⟨by kernel_rfl, by kernel_rfl⟩, List.forall_mem_cons.2 ⟨⟨by kernel_rfl, by kernel_rfl⟩, List.forall_mem_cons.2 ⟨⟨by kernel_rfl, by kernel_rfl⟩, List.forall_mem_cons.2 ⟨⟨by kernel_rfl, by kernel_rfl⟩, List.forall_mem_cons.2 ⟨⟨by kernel_rfl, by kernel_rfl⟩, List.forall_mem_cons.2 ⟨⟨by kernel_rfl, by kernel_rfl⟩, List.forall_mem_cons.2 ⟨⟨by kernel_rfl, by kernel_rfl⟩, List.forall_mem_cons.2 ⟨⟨by kernel_rfl, by kernel_rfl⟩, List.forall_mem_cons.2 ⟨⟨by kernel_rfl, by kernel_rfl⟩, fun _ h => absurd h List.not_mem_nil⟩⟩⟩⟩⟩⟩⟩⟩⟩⟩⟩⟩⟩⟩⟩⟩⟩⟩⟩⟩⟩
  flds := List.forall_mem_cons.2 ⟨(List.forall_mem_cons.2 ⟨by kernel_rfl, List.forall_mem_cons.2 ⟨by kernel_rfl, List.forall_mem_cons.2 ⟨by kernel_rfl, fun _ h => absurd h List.not_mem_nil⟩⟩⟩), List.forall_mem_cons.2 ⟨(List.forall_mem_cons.2 ⟨by kernel_rfl, List.forall_mem_cons.2 ⟨by kernel_rfl, fun _ h => absurd h List.not_mem_nil⟩⟩), List.forall_mem_cons.2 ⟨(List.forall_mem_cons.2 ⟨by kernel_rfl, List.forall_mem_cons.2 ⟨by kernel_rfl, List.forall_mem_cons.2 ⟨by kernel_rfl, List.forall_mem_cons.2 ⟨by kernel_rfl, fun _ h => absurd h List.not_mem_nil⟩⟩⟩⟩), List.forall_mem_cons.2 ⟨(List.forall_mem_cons.2 ⟨by kernel_rfl, List.forall_mem_cons.2 ⟨by kernel_rfl, fun _ h => absurd h List.not_mem_nil⟩⟩), fun _ h => absurd h List.not_mem_nil⟩⟩⟩⟩
  ints := List.forall_mem_cons.2 ⟨by kernel_rfl, List.forall_mem_cons.2 ⟨by kernel_rfl, List.forall_mem_cons.2 ⟨by kernel_rfl, List.forall_mem_cons.2 ⟨by kernel_rfl, List.forall_mem_cons.2 ⟨by kernel_rfl, List.forall_mem_cons.2 ⟨by kernel_rfl, List.forall_mem_cons.2 ⟨by kernel_rfl, List.forall_mem_cons.2 ⟨by kernel_rfl, fun _ h => absurd h List.not_mem_nil⟩⟩⟩⟩⟩⟩⟩⟩
  strs := List.forall_mem_cons.2 ⟨by kernel_rfl, fun _ h => absurd h List.not_mem_nil⟩
  zeros := List.forall_mem_cons.2 ⟨by unfold okZero; kernel_rfl, List.forall_mem_cons.2 ⟨by unfold okZero; kernel_rfl, List.forall_mem_cons.2 ⟨by unfold okZero; kernel_rfl, List.forall_mem_cons.2 ⟨by unfold okZero; kernel_rfl, fun _ h => absurd h List.not_mem_nil⟩⟩⟩⟩
  fszs := List.forall_mem_cons.2 ⟨by unfold okFsz; kernel_rfl, List.forall_mem_cons.2 ⟨by unfold okFsz; kernel_rfl, List.forall_mem_cons.2 ⟨by unfold okFsz; kernel_rfl, List.forall_mem_cons.2 ⟨by unfold okFsz; kernel_rfl, fun _ h => absurd h List.not_mem_nil⟩⟩⟩⟩
  eqs := List.forall_mem_cons.2 ⟨eqVer_ok, List.forall_mem_cons.2 ⟨eqCell_ok, List.forall_mem_cons.2 ⟨eqPair_ok, fun _ h => absurd h List.not_mem_nil⟩⟩⟩
theorem zeros34 : lk? T.zeros 34 = some (.agg #[.string ⟨#[]⟩, .int .i64 0, .int .i64 0]) := rfl
theorem zeros36 : lk? T.zeros 36 = some (.agg #[.string ⟨#[]⟩, .int .i64 0, .int .i64 0, .string ⟨#[]⟩]) := rfl
theorem zeros42 : lk? T.zeros 42 = some (.agg #[.slice none 0 0, .slice none 0 0, .int .i64 0, .bool false]) := rfl
theorem zeros61 : lk? T.zeros 61 = some (.agg #[.string ⟨#[]⟩, .string ⟨#[]⟩]) := rfl
theorem fszs34 : lk? T.fszs 34 = some [(0, 1), (1, 1), (2, 1)] := rfl
theorem fszs36 : lk? T.fszs 36 = some [(0, 3), (3, 1)] := rfl
theorem fszs42 : lk? T.fszs 42 = some [(0, 1), (1, 1), (2, 1), (3, 1)] := rfl
theorem fszs61 : lk? T.fszs 61 = some [(0, 1), (1, 1)] := rfl
theorem eqs34 : lk? T.eqs 34 = some eqVer := rfl
theorem eqs36 : lk? T.eqs 36 = some eqCell := rfl
theorem eqs61 : lk? T.eqs 61 = some eqPair := rfl
theorem sls22 : lk? T.sls 22 = some ⟨36, 4, 48, .agg #[.string ⟨#[]⟩, .int .i64 0, .int .i64 0, .string ⟨#[]⟩]⟩ := rfl
theorem sls23 : lk? T.sls 23 = some ⟨3, 1, 8, .int .i64 0⟩ := rfl
theorem sls30 : lk? T.sls 30 = some ⟨61, 2, 32, .agg #[.string ⟨#[]⟩, .string ⟨#[]⟩]⟩ := rfl
theorem sls39 : lk? T.sls 39 = some ⟨22, 1, 24, .slice none 0 0⟩ := rfl
theorem sls48 : lk? T.sls 48 = some ⟨5, 1, 1, .int .u8 0⟩ := rfl
theorem szs3 : lk? T.szs 3 = some none := rfl
theorem szs4 : lk? T.szs 4 = some none := rfl
theorem szs5 : lk? T.szs 5 = some none := rfl
theorem szs9 : lk? T.szs 9 = some none := rfl
theorem szs22 : lk? T.szs 22 = some none := rfl
theorem szs23 : lk? T.szs 23 = some none := rfl
theorem szs26 : lk? T.szs 26 = some none := rfl
theorem szs30 : lk? T.szs 30 = some none := rfl
theorem szs34 : lk? T.szs 34 = some (some 3) := rfl
theorem szs36 : lk? T.szs 36 = some (some 4) := rfl
theorem szs37 : lk? T.szs 37 = some none := rfl
theorem szs39 : lk? T.szs 39 = some none := rfl
theorem szs42 : lk? T.szs 42 = some (some 4) := rfl
theorem szs48 : lk? T.szs 48 = some none := rfl
theorem szs61 : lk? T.szs 61 = some (some 2) := rfl
theorem szs67 : lk? T.szs 67 = some none := rfl
theorem szs72 : lk? T.szs 72 = some none := rfl
theorem szs80 : lk? T.szs 80 = some none := rfl
theorem szs83 : lk? T.szs 83 = some none := rfl
theorem szs87 : lk? T.szs 87 = some none := rfl
theorem szs89 : lk? T.szs 89 = some none := rfl
theorem fld34_0 : T.fld 34 0 = some 0 := rfl
theorem fld34_1 : T.fld 34 1 = some 1 := rfl
theorem fld34_2 : T.fld 34 2 = some 2 := rfl
theorem fld36_0 : T.fld 36 0 = some 0 := rfl
theorem fld36_1 : T.fld 36 1 = some 3 := rfl
theorem fld42_0 : T.fld 42 0 = some 0 := rfl
theorem fld42_1 : T.fld 42 1 = some 1 := rfl
theorem fld42_2 : T.fld 42 2 = some 2 := rfl
theorem fld42_3 : T.fld 42 3 = some 3 := rfl
theorem fld61_0 : T.fld 61 0 = some 0 := rfl
theorem fld61_1 : T.fld 61 1 = some 1 := rfl
theorem ints3 : lk? T.ints 3 = some .i64 := rfl
theorem ints5 : lk? T.ints 5 = some .u8 := rfl
theorem ints26 : lk? T.ints 26 = some .i64 := rfl
theorem ints37 : lk? T.ints 37 = some .u64 := rfl
theorem ints67 : lk? T.ints 67 = some .u64 := rfl
theorem ints72 : lk? T.ints 72 = some .i64 := rfl
theorem ints80 : lk? T.ints 80 = some .u32 := rfl
theorem ints83 : lk? T.ints 83 = some .u64 := rfl
theorem strs9 : T.strs.elem 9 = true := rfl
theorem mixed : Try.prog.follows .mixedOrders = true := by kernel_rfl
end Go.Proofs.Ytpemfmlonamikaa.Av
