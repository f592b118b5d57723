/- The table of types that the walk over an abstract heap looks up. -/
import Derived.Test.YtmgpfckkafcllaaProg
import Derived.Test.YtmgpfckkafcllaaHvSet
namespace Go.Proofs.Ytmgpfckkafcllaa.Hv
open Go Go.RowKit
def T : Tbl where
  sls := [(22, ⟨24, 3, 40, .agg #[.int .i64 0, .string ⟨#[]⟩, .string ⟨#[]⟩]⟩), (26, ⟨5, 1, 1, .int .u8 0⟩), (40, ⟨48, 4, 48, .agg #[.string ⟨#[]⟩, .int .i64 0, .int .i64 0, .string ⟨#[]⟩]⟩), (73, ⟨9, 1, 16, .string ⟨#[]⟩⟩)]
  szs := [(3, none), (4, none), (5, none), (9, none), (22, none), (24, some 3), (26, none), (27, none), (40, none), (46, some 3), (48, some 4), (53, none), (61, none), (63, some 2), (66, none), (70, none), (72, none), (73, none), (75, none), (76, none), (78, none), (89, none), (92, none), (100, none), (104, none), (108, none), (116, none)]
  flds := [(24, [(0, 0), (1, 1), (2, 2)]), (46, [(0, 0), (1, 1), (2, 2)]), (48, [(0, 0), (1, 3)]), (63, [(0, 0), (1, 1)])]
  ints := [(3, .i64), (5, .u8), (27, .i64), (53, .u64), (78, .u64), (92, .i64), (100, .u32), (104, .u64)]
  strs := [9]
  zeros := [(3, .int .i64 0), (4, .bool false), (5, .int .u8 0), (9, .string ⟨#[]⟩), (22, .slice none 0 0), (24, .agg #[.int .i64 0, .string ⟨#[]⟩, .string ⟨#[]⟩]), (26, .slice none 0 0), (27, .int .i64 0), (40, .slice none 0 0), (46, .agg #[.string ⟨#[]⟩, .int .i64 0, .int .i64 0]), (48, .agg #[.string ⟨#[]⟩, .int .i64 0, .int .i64 0, .string ⟨#[]⟩]), (53, .int .u64 0), (61, .pointer none), (63, .agg #[.slice none 0 0, .bool false]), (66, .nilFunc), (70, .nilFunc), (72, .map none), (73, .slice none 0 0), (75, .nilFunc), (76, .nilFunc), (78, .int .u64 0), (89, .nilFunc), (92, .int .i64 0), (100, .int .u32 0), (104, .int .u64 0), (108, .pointer none), (116, .pointer none)]
  fszs := [(24, [(0, 1), (1, 1), (2, 1)]), (46, [(0, 1), (1, 1), (2, 1)]), (48, [(0, 3), (3, 1)]), (63, [(0, 1), (1, 1)])]
  eqs := [(24, (eqFl [.int .i64, .str, .str])), (46, (eqFl [.str, .int .i64, .int .i64])), (48, (eqFl [.str, .int .i64, .int .i64, .str]))]
  ptrs := [61, 108, 116]
  bools := [4]
  arrs := []
  byts := [26]
  maps := [(72, ⟨9, 24, .agg #[.int .i64 0, .string ⟨#[]⟩, .string ⟨#[]⟩]⟩)]
  keys := []
  pks := [61, 108, 116]
set_option maxRecDepth 20000 in
theorem TOk : T.Ok Try.prog where
  sls := List.forall_mem_cons.2 ⟨ElemT.mk' (by kernel_rfl) (by kernel_rfl) rfl (by decide) (by decide), List.forall_mem_cons.2 ⟨ElemT.mk' (by kernel_rfl) (by kernel_rfl) rfl (by decide) (by decide), List.forall_mem_cons.2 ⟨ElemT.mk' (by kernel_rfl) (by kernel_rfl) rfl (by decide) (by decide), List.forall_mem_cons.2 ⟨ElemT.mk' (by kernel_rfl) (by kernel_rfl) rfl (by decide) (by decide), fun _ h => absurd h List.not_mem_nil⟩⟩⟩⟩
  szs := List.forall_mem_cons.2 ⟨⟨by kernel_rfl, by kernel_rfl⟩, List.forall_mem_cons.2 ⟨⟨by kernel_rfl, by kernel_rfl⟩, List.forall_mem_cons.2 ⟨⟨by kernel_rfl, by kernel_rfl⟩, List.forall_mem_cons.2 ⟨⟨by kernel_rfl, by kernel_rfl⟩, List.forall_mem_cons.2 ⟨⟨by kernel_rfl, by kernel_rfl⟩, List.forall_mem_cons.2 ⟨⟨by kernel_rfl, by kernel_rfl⟩, List.forall_mem_cons.2 ⟨⟨by kernel_rfl, by kernel_rfl⟩, List.forall_mem_cons.2 ⟨⟨by kernel_rfl, by kernel_rfl⟩, List.forall_mem_cons.2 ⟨⟨by kernel_rfl, by kernel_rfl⟩, List.forall_mem_cons.2 ⟨⟨by kernel_rfl, by kernel_rfl⟩, List.forall_mem_cons.2 ⟨⟨by kernel_rfl, by kernel_rfl⟩, List.forall_mem_cons.2 ⟨⟨by kernel_rfl, by kernel_rfl⟩, List.forall_mem_cons.2 ⟨⟨by kernel_rfl, by kernel_rfl⟩, List.forall_mem_cons.2 ⟨⟨by kernel_rfl, by kernel_rfl⟩, List.forall_mem_cons.2 ⟨⟨by kernel_rfl, by kernel_rfl⟩, List.forall_mem_cons.2 ⟨⟨by kernel_rfl, by kernel_rfl⟩, List.forall_mem_cons.2 ⟨⟨by kernel_rfl, by kernel_rfl⟩, List.forall_mem_cons.2 ⟨⟨by kernel_rfl, by kernel_rfl⟩, List.forall_mem_cons.2 ⟨⟨by kernel_rfl, by kernel_rfl⟩, List.forall_mem_cons.2 ⟨⟨by kernel_rfl, by kernel_rfl⟩, List.forall_mem_cons.2 ⟨⟨by kernel_rfl, by kernel_rfl⟩, List.forall_mem_cons.2 ⟨⟨by kernel_rfl, by kernel_rfl⟩, List.forall_mem_cons.2 ⟨⟨by kernel_rfl, by kernel_rfl⟩, List.forall_mem_cons.2 ⟨⟨by kernel_rfl, by kernel_rfl⟩, List.forall_mem_cons.2 ⟨⟨by kernel_rfl, by kernel_rfl⟩, List.forall_mem_cons.2 ⟨⟨by kernel_rfl, by kernel_rfl⟩, List.forall_mem_cons.2 ⟨⟨by kernel_rfl, by kernel_rfl⟩, fun _ h => absurd h List.not_mem_nil⟩⟩⟩⟩⟩⟩⟩⟩⟩⟩⟩⟩⟩⟩⟩⟩⟩⟩⟩⟩⟩⟩⟩⟩⟩⟩⟩
  flds := List.forall_mem_cons.2 ⟨(List.forall_mem_cons.2 ⟨by kernel_rfl, List.forall_mem_cons.2 ⟨by kernel_rfl, List.forall_mem_cons.2 ⟨by kernel_rfl, fun _ h => absurd h List.not_mem_nil⟩⟩⟩), List.forall_mem_cons.2 ⟨(List.forall_mem_cons.2 ⟨by kernel_rfl, List.forall_mem_cons.2 ⟨by kernel_rfl, List.forall_mem_cons.2 ⟨by kernel_rfl, fun _ h => absurd h List.not_mem_nil⟩⟩⟩), List.forall_mem_cons.2 ⟨(List.forall_mem_cons.2 ⟨by kernel_rfl, List.forall_mem_cons.2 ⟨by kernel_rfl, fun _ h => absurd h List.not_mem_nil⟩⟩), List.forall_mem_cons.2 ⟨(List.forall_mem_cons.2 ⟨by kernel_rfl, List.forall_mem_cons.2 ⟨by kernel_rfl, fun _ h => absurd h List.not_mem_nil⟩⟩), fun _ h => absurd h List.not_mem_nil⟩⟩⟩⟩
  ints := List.forall_mem_cons.2 ⟨by kernel_rfl, List.forall_mem_cons.2 ⟨by kernel_rfl, List.forall_mem_cons.2 ⟨by kernel_rfl, List.forall_mem_cons.2 ⟨by kernel_rfl, List.forall_mem_cons.2 ⟨by kernel_rfl, List.forall_mem_cons.2 ⟨by kernel_rfl, List.forall_mem_cons.2 ⟨by kernel_rfl, List.forall_mem_cons.2 ⟨by kernel_rfl, fun _ h => absurd h List.not_mem_nil⟩⟩⟩⟩⟩⟩⟩⟩
  strs := List.forall_mem_cons.2 ⟨by kernel_rfl, fun _ h => absurd h List.not_mem_nil⟩
  zeros := List.forall_mem_cons.2 ⟨by unfold okZero; kernel_rfl, List.forall_mem_cons.2 ⟨by unfold okZero; kernel_rfl, List.forall_mem_cons.2 ⟨by unfold okZero; kernel_rfl, List.forall_mem_cons.2 ⟨by unfold okZero; kernel_rfl, List.forall_mem_cons.2 ⟨by unfold okZero; kernel_rfl, List.forall_mem_cons.2 ⟨by unfold okZero; kernel_rfl, List.forall_mem_cons.2 ⟨by unfold okZero; kernel_rfl, List.forall_mem_cons.2 ⟨by unfold okZero; kernel_rfl, List.forall_mem_cons.2 ⟨by unfold okZero; kernel_rfl, List.forall_mem_cons.2 ⟨by unfold okZero; kernel_rfl, List.forall_mem_cons.2 ⟨by unfold okZero; kernel_rfl, List.forall_mem_cons.2 ⟨by unfold okZero; kernel_rfl, List.forall_mem_cons.2 ⟨by unfold okZero; kernel_rfl, List.forall_mem_cons.2 ⟨by unfold okZero; kernel_rfl, List.forall_mem_cons.2 ⟨by unfold okZero; kernel_rfl, List.forall_mem_cons.2 ⟨by unfold okZero; kernel_rfl, List.forall_mem_cons.2 ⟨by unfold okZero; kernel_rfl, List.forall_mem_cons.2 ⟨by unfold okZero; kernel_rfl, List.forall_mem_cons.2 ⟨by unfold okZero; kernel_rfl, List.forall_mem_cons.2 ⟨by unfold okZero; kernel_rfl, List.forall_mem_cons.2 ⟨by unfold okZero; kernel_rfl, List.forall_mem_cons.2 ⟨by unfold okZero; kernel_rfl, List.forall_mem_cons.2 ⟨by unfold okZero; kernel_rfl, List.forall_mem_cons.2 ⟨by unfold okZero; kernel_rfl, List.forall_mem_cons.2 ⟨by unfold okZero; kernel_rfl, List.forall_mem_cons.2 ⟨by unfold okZero; kernel_rfl, List.forall_mem_cons.2 ⟨by unfold okZero; kernel_rfl, fun _ h => absurd h List.not_mem_nil⟩⟩⟩⟩⟩⟩⟩⟩⟩⟩⟩⟩⟩⟩⟩⟩⟩⟩⟩⟩⟩⟩⟩⟩⟩⟩⟩
  fszs := List.forall_mem_cons.2 ⟨by unfold okFsz; kernel_rfl, List.forall_mem_cons.2 ⟨by unfold okFsz; kernel_rfl, List.forall_mem_cons.2 ⟨by unfold okFsz; kernel_rfl, List.forall_mem_cons.2 ⟨by unfold okFsz; kernel_rfl, fun _ h => absurd h List.not_mem_nil⟩⟩⟩⟩
  eqs := List.forall_mem_cons.2 ⟨okEq_flat ⟨by kernel_rfl, by kernel_rfl⟩ (by kernel_rfl), List.forall_mem_cons.2 ⟨okEq_flat ⟨by kernel_rfl, by kernel_rfl⟩ (by kernel_rfl), List.forall_mem_cons.2 ⟨okEq_flat ⟨by kernel_rfl, by kernel_rfl⟩ (by kernel_rfl), fun _ h => absurd h List.not_mem_nil⟩⟩⟩
  ptrs := List.forall_mem_cons.2 ⟨by unfold okPtr; kernel_rfl, List.forall_mem_cons.2 ⟨by unfold okPtr; kernel_rfl, List.forall_mem_cons.2 ⟨by unfold okPtr; kernel_rfl, fun _ h => absurd h List.not_mem_nil⟩⟩⟩
  bools := List.forall_mem_cons.2 ⟨by kernel_rfl, fun _ h => absurd h List.not_mem_nil⟩
  arrs := fun _ h => absurd h List.not_mem_nil
  byts := List.forall_mem_cons.2 ⟨⟨5, by kernel_rfl, by kernel_rfl, by kernel_rfl⟩, fun _ h => absurd h List.not_mem_nil⟩
  maps := List.forall_mem_cons.2 ⟨⟨by kernel_rfl, by kernel_rfl⟩, fun _ h => absurd h List.not_mem_nil⟩
  keys := fun _ h => absurd h List.not_mem_nil
  pks := List.forall_mem_cons.2 ⟨by kernel_rfl, List.forall_mem_cons.2 ⟨by kernel_rfl, List.forall_mem_cons.2 ⟨by kernel_rfl, fun _ h => absurd h List.not_mem_nil⟩⟩⟩
theorem pks61 : T.pks.elem 61 = true := rfl
theorem pks108 : T.pks.elem 108 = true := rfl
theorem pks116 : T.pks.elem 116 = true := rfl
theorem zeros3 : lk? T.zeros 3 = some (.int .i64 0) := rfl
theorem zeros4 : lk? T.zeros 4 = some (.bool false) := rfl
theorem zeros5 : lk? T.zeros 5 = some (.int .u8 0) := rfl
theorem zeros9 : lk? T.zeros 9 = some (.string ⟨#[]⟩) := rfl
theorem zeros22 : lk? T.zeros 22 = some (.slice none 0 0) := rfl
theorem zeros24 : lk? T.zeros 24 = some (.agg #[.int .i64 0, .string ⟨#[]⟩, .string ⟨#[]⟩]) := rfl
theorem zeros26 : lk? T.zeros 26 = some (.slice none 0 0) := rfl
theorem zeros27 : lk? T.zeros 27 = some (.int .i64 0) := rfl
theorem zeros40 : lk? T.zeros 40 = some (.slice none 0 0) := rfl
theorem zeros46 : lk? T.zeros 46 = some (.agg #[.string ⟨#[]⟩, .int .i64 0, .int .i64 0]) := rfl
theorem zeros48 : lk? T.zeros 48 = some (.agg #[.string ⟨#[]⟩, .int .i64 0, .int .i64 0, .string ⟨#[]⟩]) := rfl
theorem zeros53 : lk? T.zeros 53 = some (.int .u64 0) := rfl
theorem zeros61 : lk? T.zeros 61 = some (.pointer none) := rfl
theorem zeros63 : lk? T.zeros 63 = some (.agg #[.slice none 0 0, .bool false]) := rfl
theorem zeros66 : lk? T.zeros 66 = some (.nilFunc) := rfl
theorem zeros70 : lk? T.zeros 70 = some (.nilFunc) := rfl
theorem zeros72 : lk? T.zeros 72 = some (.map none) := rfl
theorem zeros73 : lk? T.zeros 73 = some (.slice none 0 0) := rfl
theorem zeros75 : lk? T.zeros 75 = some (.nilFunc) := rfl
theorem zeros76 : lk? T.zeros 76 = some (.nilFunc) := rfl
theorem zeros78 : lk? T.zeros 78 = some (.int .u64 0) := rfl
theorem zeros89 : lk? T.zeros 89 = some (.nilFunc) := rfl
theorem zeros92 : lk? T.zeros 92 = some (.int .i64 0) := rfl
theorem zeros100 : lk? T.zeros 100 = some (.int .u32 0) := rfl
theorem zeros104 : lk? T.zeros 104 = some (.int .u64 0) := rfl
theorem zeros108 : lk? T.zeros 108 = some (.pointer none) := rfl
theorem zeros116 : lk? T.zeros 116 = some (.pointer none) := rfl
theorem fszs24 : lk? T.fszs 24 = some [(0, 1), (1, 1), (2, 1)] := rfl
theorem fszs46 : lk? T.fszs 46 = some [(0, 1), (1, 1), (2, 1)] := rfl
theorem fszs48 : lk? T.fszs 48 = some [(0, 3), (3, 1)] := rfl
theorem fszs63 : lk? T.fszs 63 = some [(0, 1), (1, 1)] := rfl
theorem eqs24 : lk? T.eqs 24 = some (eqFl [.int .i64, .str, .str]) := rfl
theorem eqs46 : lk? T.eqs 46 = some (eqFl [.str, .int .i64, .int .i64]) := rfl
theorem eqs48 : lk? T.eqs 48 = some (eqFl [.str, .int .i64, .int .i64, .str]) := rfl
theorem sls22 : lk? T.sls 22 = some ⟨24, 3, 40, .agg #[.int .i64 0, .string ⟨#[]⟩, .string ⟨#[]⟩]⟩ := rfl
theorem sls26 : lk? T.sls 26 = some ⟨5, 1, 1, .int .u8 0⟩ := rfl
theorem sls40 : lk? T.sls 40 = some ⟨48, 4, 48, .agg #[.string ⟨#[]⟩, .int .i64 0, .int .i64 0, .string ⟨#[]⟩]⟩ := rfl
theorem sls73 : lk? T.sls 73 = some ⟨9, 1, 16, .string ⟨#[]⟩⟩ := rfl
theorem szs3 : lk? T.szs 3 = some none := rfl
theorem szs4 : lk? T.szs 4 = some none := rfl
theorem szs5 : lk? T.szs 5 = some none := rfl
theorem szs9 : lk? T.szs 9 = some none := rfl
theorem szs22 : lk? T.szs 22 = some none := rfl
theorem szs24 : lk? T.szs 24 = some (some 3) := rfl
theorem szs26 : lk? T.szs 26 = some none := rfl
theorem szs27 : lk? T.szs 27 = some none := rfl
theorem szs40 : lk? T.szs 40 = some none := rfl
theorem szs46 : lk? T.szs 46 = some (some 3) := rfl
theorem szs48 : lk? T.szs 48 = some (some 4) := rfl
theorem szs53 : lk? T.szs 53 = some none := rfl
theorem szs61 : lk? T.szs 61 = some none := rfl
theorem szs63 : lk? T.szs 63 = some (some 2) := rfl
theorem szs66 : lk? T.szs 66 = some none := rfl
theorem szs70 : lk? T.szs 70 = some none := rfl
theorem szs72 : lk? T.szs 72 = some none := rfl
theorem szs73 : lk? T.szs 73 = some none := rfl
theorem szs75 : lk? T.szs 75 = some none := rfl
theorem szs76 : lk? T.szs 76 = some none := rfl
theorem szs78 : lk? T.szs 78 = some none := rfl
theorem szs89 : lk? T.szs 89 = some none := rfl
theorem szs92 : lk? T.szs 92 = some none := rfl
theorem szs100 : lk? T.szs 100 = some none := rfl
theorem szs104 : lk? T.szs 104 = some none := rfl
theorem szs108 : lk? T.szs 108 = some none := rfl
theorem szs116 : lk? T.szs 116 = some none := rfl
theorem fld24_0 : T.fld 24 0 = some 0 := rfl
theorem fld24_1 : T.fld 24 1 = some 1 := rfl
theorem fld24_2 : T.fld 24 2 = some 2 := rfl
theorem fld46_0 : T.fld 46 0 = some 0 := rfl
theorem fld46_1 : T.fld 46 1 = some 1 := rfl
theorem fld46_2 : T.fld 46 2 = some 2 := rfl
theorem fld48_0 : T.fld 48 0 = some 0 := rfl
theorem fld48_1 : T.fld 48 1 = some 3 := rfl
theorem fld63_0 : T.fld 63 0 = some 0 := rfl
theorem fld63_1 : T.fld 63 1 = some 1 := rfl
theorem ints3 : lk? T.ints 3 = some .i64 := rfl
theorem ints5 : lk? T.ints 5 = some .u8 := rfl
theorem ints27 : lk? T.ints 27 = some .i64 := rfl
theorem ints53 : lk? T.ints 53 = some .u64 := rfl
theorem ints78 : lk? T.ints 78 = some .u64 := rfl
theorem ints92 : lk? T.ints 92 = some .i64 := rfl
theorem ints100 : lk? T.ints 100 = some .u32 := rfl
theorem ints104 : lk? T.ints 104 = some .u64 := rfl
theorem strs9 : T.strs.elem 9 = true := rfl
theorem ptrs61 : T.ptrs.elem 61 = true := rfl
theorem ptrs108 : T.ptrs.elem 108 = true := rfl
theorem ptrs116 : T.ptrs.elem 116 = true := rfl
theorem bools4 : T.bools.elem 4 = true := rfl
theorem nptr4 : T.ptrs.elem 4 = false := rfl
theorem byts26 : T.byts.elem 26 = true := rfl
theorem maps72 : lk? T.maps 72 = some ⟨9, 24, .agg #[.int .i64 0, .string ⟨#[]⟩, .string ⟨#[]⟩]⟩ := rfl
theorem narr0 : lk? T.arrs 0 = none := rfl
theorem nint0 : lk? T.ints 0 = none := rfl
theorem nsls0 : lk? T.sls 0 = none := rfl
theorem nstr0 : T.strs.elem 0 = false := rfl
theorem nbyt0 : T.byts.elem 0 = false := rfl
theorem narr3 : lk? T.arrs 3 = none := rfl
theorem nsls3 : lk? T.sls 3 = none := rfl
theorem nstr3 : T.strs.elem 3 = false := rfl
theorem nbyt3 : T.byts.elem 3 = false := rfl
theorem narr4 : lk? T.arrs 4 = none := rfl
theorem nint4 : lk? T.ints 4 = none := rfl
theorem nsls4 : lk? T.sls 4 = none := rfl
theorem nstr4 : T.strs.elem 4 = false := rfl
theorem nbyt4 : T.byts.elem 4 = false := rfl
theorem narr5 : lk? T.arrs 5 = none := rfl
theorem nsls5 : lk? T.sls 5 = none := rfl
theorem nstr5 : T.strs.elem 5 = false := rfl
theorem nbyt5 : T.byts.elem 5 = false := rfl
theorem narr9 : lk? T.arrs 9 = none := rfl
theorem nint9 : lk? T.ints 9 = none := rfl
theorem nsls9 : lk? T.sls 9 = none := rfl
theorem nbyt9 : T.byts.elem 9 = false := rfl
theorem narr22 : lk? T.arrs 22 = none := rfl
theorem nint22 : lk? T.ints 22 = none := rfl
theorem nstr22 : T.strs.elem 22 = false := rfl
theorem nbyt22 : T.byts.elem 22 = false := rfl
theorem narr24 : lk? T.arrs 24 = none := rfl
theorem nint24 : lk? T.ints 24 = none := rfl
theorem nsls24 : lk? T.sls 24 = none := rfl
theorem nstr24 : T.strs.elem 24 = false := rfl
theorem nbyt24 : T.byts.elem 24 = false := rfl
theorem narr26 : lk? T.arrs 26 = none := rfl
theorem nint26 : lk? T.ints 26 = none := rfl
theorem nstr26 : T.strs.elem 26 = false := rfl
theorem narr27 : lk? T.arrs 27 = none := rfl
theorem nsls27 : lk? T.sls 27 = none := rfl
theorem nstr27 : T.strs.elem 27 = false := rfl
theorem nbyt27 : T.byts.elem 27 = false := rfl
theorem narr28 : lk? T.arrs 28 = none := rfl
theorem nint28 : lk? T.ints 28 = none := rfl
theorem nsls28 : lk? T.sls 28 = none := rfl
theorem nstr28 : T.strs.elem 28 = false := rfl
theorem nbyt28 : T.byts.elem 28 = false := rfl
theorem narr32 : lk? T.arrs 32 = none := rfl
theorem nint32 : lk? T.ints 32 = none := rfl
theorem nsls32 : lk? T.sls 32 = none := rfl
theorem nstr32 : T.strs.elem 32 = false := rfl
theorem nbyt32 : T.byts.elem 32 = false := rfl
theorem narr34 : lk? T.arrs 34 = none := rfl
theorem nint34 : lk? T.ints 34 = none := rfl
theorem nsls34 : lk? T.sls 34 = none := rfl
theorem nstr34 : T.strs.elem 34 = false := rfl
theorem nbyt34 : T.byts.elem 34 = false := rfl
theorem narr40 : lk? T.arrs 40 = none := rfl
theorem nint40 : lk? T.ints 40 = none := rfl
theorem nstr40 : T.strs.elem 40 = false := rfl
theorem nbyt40 : T.byts.elem 40 = false := rfl
theorem narr41 : lk? T.arrs 41 = none := rfl
theorem nint41 : lk? T.ints 41 = none := rfl
theorem nsls41 : lk? T.sls 41 = none := rfl
theorem nstr41 : T.strs.elem 41 = false := rfl
theorem nbyt41 : T.byts.elem 41 = false := rfl
theorem narr46 : lk? T.arrs 46 = none := rfl
theorem nint46 : lk? T.ints 46 = none := rfl
theorem nsls46 : lk? T.sls 46 = none := rfl
theorem nstr46 : T.strs.elem 46 = false := rfl
theorem nbyt46 : T.byts.elem 46 = false := rfl
theorem narr48 : lk? T.arrs 48 = none := rfl
theorem nint48 : lk? T.ints 48 = none := rfl
theorem nsls48 : lk? T.sls 48 = none := rfl
theorem nstr48 : T.strs.elem 48 = false := rfl
theorem nbyt48 : T.byts.elem 48 = false := rfl
theorem narr53 : lk? T.arrs 53 = none := rfl
theorem nsls53 : lk? T.sls 53 = none := rfl
theorem nstr53 : T.strs.elem 53 = false := rfl
theorem nbyt53 : T.byts.elem 53 = false := rfl
theorem narr57 : lk? T.arrs 57 = none := rfl
theorem nint57 : lk? T.ints 57 = none := rfl
theorem nsls57 : lk? T.sls 57 = none := rfl
theorem nstr57 : T.strs.elem 57 = false := rfl
theorem nbyt57 : T.byts.elem 57 = false := rfl
theorem narr59 : lk? T.arrs 59 = none := rfl
theorem nint59 : lk? T.ints 59 = none := rfl
theorem nsls59 : lk? T.sls 59 = none := rfl
theorem nstr59 : T.strs.elem 59 = false := rfl
theorem nbyt59 : T.byts.elem 59 = false := rfl
theorem narr61 : lk? T.arrs 61 = none := rfl
theorem nint61 : lk? T.ints 61 = none := rfl
theorem nsls61 : lk? T.sls 61 = none := rfl
theorem nstr61 : T.strs.elem 61 = false := rfl
theorem nbyt61 : T.byts.elem 61 = false := rfl
theorem narr63 : lk? T.arrs 63 = none := rfl
theorem nint63 : lk? T.ints 63 = none := rfl
theorem nsls63 : lk? T.sls 63 = none := rfl
theorem nstr63 : T.strs.elem 63 = false := rfl
theorem nbyt63 : T.byts.elem 63 = false := rfl
theorem narr66 : lk? T.arrs 66 = none := rfl
theorem nint66 : lk? T.ints 66 = none := rfl
theorem nsls66 : lk? T.sls 66 = none := rfl
theorem nstr66 : T.strs.elem 66 = false := rfl
theorem nbyt66 : T.byts.elem 66 = false := rfl
theorem narr70 : lk? T.arrs 70 = none := rfl
theorem nint70 : lk? T.ints 70 = none := rfl
theorem nsls70 : lk? T.sls 70 = none := rfl
theorem nstr70 : T.strs.elem 70 = false := rfl
theorem nbyt70 : T.byts.elem 70 = false := rfl
theorem narr72 : lk? T.arrs 72 = none := rfl
theorem nint72 : lk? T.ints 72 = none := rfl
theorem nsls72 : lk? T.sls 72 = none := rfl
theorem nstr72 : T.strs.elem 72 = false := rfl
theorem nbyt72 : T.byts.elem 72 = false := rfl
theorem narr73 : lk? T.arrs 73 = none := rfl
theorem nint73 : lk? T.ints 73 = none := rfl
theorem nstr73 : T.strs.elem 73 = false := rfl
theorem nbyt73 : T.byts.elem 73 = false := rfl
theorem narr75 : lk? T.arrs 75 = none := rfl
theorem nint75 : lk? T.ints 75 = none := rfl
theorem nsls75 : lk? T.sls 75 = none := rfl
theorem nstr75 : T.strs.elem 75 = false := rfl
theorem nbyt75 : T.byts.elem 75 = false := rfl
theorem narr76 : lk? T.arrs 76 = none := rfl
theorem nint76 : lk? T.ints 76 = none := rfl
theorem nsls76 : lk? T.sls 76 = none := rfl
theorem nstr76 : T.strs.elem 76 = false := rfl
theorem nbyt76 : T.byts.elem 76 = false := rfl
theorem narr78 : lk? T.arrs 78 = none := rfl
theorem nsls78 : lk? T.sls 78 = none := rfl
theorem nstr78 : T.strs.elem 78 = false := rfl
theorem nbyt78 : T.byts.elem 78 = false := rfl
theorem narr81 : lk? T.arrs 81 = none := rfl
theorem nint81 : lk? T.ints 81 = none := rfl
theorem nsls81 : lk? T.sls 81 = none := rfl
theorem nstr81 : T.strs.elem 81 = false := rfl
theorem nbyt81 : T.byts.elem 81 = false := rfl
theorem narr89 : lk? T.arrs 89 = none := rfl
theorem nint89 : lk? T.ints 89 = none := rfl
theorem nsls89 : lk? T.sls 89 = none := rfl
theorem nstr89 : T.strs.elem 89 = false := rfl
theorem nbyt89 : T.byts.elem 89 = false := rfl
theorem narr92 : lk? T.arrs 92 = none := rfl
theorem nsls92 : lk? T.sls 92 = none := rfl
theorem nstr92 : T.strs.elem 92 = false := rfl
theorem nbyt92 : T.byts.elem 92 = false := rfl
theorem narr93 : lk? T.arrs 93 = none := rfl
theorem nint93 : lk? T.ints 93 = none := rfl
theorem nsls93 : lk? T.sls 93 = none := rfl
theorem nstr93 : T.strs.elem 93 = false := rfl
theorem nbyt93 : T.byts.elem 93 = false := rfl
theorem narr97 : lk? T.arrs 97 = none := rfl
theorem nint97 : lk? T.ints 97 = none := rfl
theorem nsls97 : lk? T.sls 97 = none := rfl
theorem nstr97 : T.strs.elem 97 = false := rfl
theorem nbyt97 : T.byts.elem 97 = false := rfl
theorem narr100 : lk? T.arrs 100 = none := rfl
theorem nsls100 : lk? T.sls 100 = none := rfl
theorem nstr100 : T.strs.elem 100 = false := rfl
theorem nbyt100 : T.byts.elem 100 = false := rfl
theorem narr104 : lk? T.arrs 104 = none := rfl
theorem nsls104 : lk? T.sls 104 = none := rfl
theorem nstr104 : T.strs.elem 104 = false := rfl
theorem nbyt104 : T.byts.elem 104 = false := rfl
theorem narr108 : lk? T.arrs 108 = none := rfl
theorem nint108 : lk? T.ints 108 = none := rfl
theorem nsls108 : lk? T.sls 108 = none := rfl
theorem nstr108 : T.strs.elem 108 = false := rfl
theorem nbyt108 : T.byts.elem 108 = false := rfl
theorem narr116 : lk? T.arrs 116 = none := rfl
theorem nint116 : lk? T.ints 116 = none := rfl
theorem nsls116 : lk? T.sls 116 = none := rfl
theorem nstr116 : T.strs.elem 116 = false := rfl
theorem nbyt116 : T.byts.elem 116 = false := rfl
theorem narr117 : lk? T.arrs 117 = none := rfl
theorem nint117 : lk? T.ints 117 = none := rfl
theorem nsls117 : lk? T.sls 117 = none := rfl
theorem nstr117 : T.strs.elem 117 = false := rfl
theorem nbyt117 : T.byts.elem 117 = false := rfl
theorem mixed : Try.prog.follows .mixedOrders = true := by kernel_rfl
attribute [push_cast] pks61 pks108 pks116 zeros3 zeros4 zeros5 zeros9 zeros22 zeros24 zeros26 zeros27 zeros40
attribute [push_cast] zeros46 zeros48 zeros53 zeros61 zeros63 zeros66 zeros70 zeros72 zeros73 zeros75 zeros76 zeros78
attribute [push_cast] zeros89 zeros92 zeros100 zeros104 zeros108 zeros116 fszs24 fszs46 fszs48 fszs63 eqs24 eqs46
attribute [push_cast] eqs48 sls22 sls26 sls40 sls73 szs3 szs4 szs5 szs9 szs22 szs24 szs26
attribute [push_cast] szs27 szs40 szs46 szs48 szs53 szs61 szs63 szs66 szs70 szs72 szs73 szs75
attribute [push_cast] szs76 szs78 szs89 szs92 szs100 szs104 szs108 szs116 fld24_0 fld24_1 fld24_2 fld46_0
attribute [push_cast] fld46_1 fld46_2 fld48_0 fld48_1 fld63_0 fld63_1 ints3 ints5 ints27 ints53 ints78 ints92
attribute [push_cast] ints100 ints104 strs9 ptrs61 ptrs108 ptrs116 bools4 nptr4 byts26 maps72 narr0 nint0
attribute [push_cast] nsls0 nstr0 nbyt0 narr3 nsls3 nstr3 nbyt3 narr4 nint4 nsls4 nstr4 nbyt4
attribute [push_cast] narr5 nsls5 nstr5 nbyt5 narr9 nint9 nsls9 nbyt9 narr22 nint22 nstr22 nbyt22
attribute [push_cast] narr24 nint24 nsls24 nstr24 nbyt24 narr26 nint26 nstr26 narr27 nsls27 nstr27 nbyt27
attribute [push_cast] narr28 nint28 nsls28 nstr28 nbyt28 narr32 nint32 nsls32 nstr32 nbyt32 narr34 nint34
attribute [push_cast] nsls34 nstr34 nbyt34 narr40 nint40 nstr40 nbyt40 narr41 nint41 nsls41 nstr41 nbyt41
attribute [push_cast] narr46 nint46 nsls46 nstr46 nbyt46 narr48 nint48 nsls48 nstr48 nbyt48 narr53 nsls53
attribute [push_cast] nstr53 nbyt53 narr57 nint57 nsls57 nstr57 nbyt57 narr59 nint59 nsls59 nstr59 nbyt59
attribute [push_cast] narr61 nint61 nsls61 nstr61 nbyt61 narr63 nint63 nsls63 nstr63 nbyt63 narr66 nint66
attribute [push_cast] nsls66 nstr66 nbyt66 narr70 nint70 nsls70 nstr70 nbyt70 narr72 nint72 nsls72 nstr72
attribute [push_cast] nbyt72 narr73 nint73 nstr73 nbyt73 narr75 nint75 nsls75 nstr75 nbyt75 narr76 nint76
attribute [push_cast] nsls76 nstr76 nbyt76 narr78 nsls78 nstr78 nbyt78 narr81 nint81 nsls81 nstr81 nbyt81
attribute [push_cast] narr89 nint89 nsls89 nstr89 nbyt89 narr92 nsls92 nstr92 nbyt92 narr93 nint93 nsls93
attribute [push_cast] nstr93 nbyt93 narr97 nint97 nsls97 nstr97 nbyt97 narr100 nsls100 nstr100 nbyt100 narr104
attribute [push_cast] nsls104 nstr104 nbyt104 narr108 nint108 nsls108 nstr108 nbyt108 narr116 nint116 nsls116 nstr116
attribute [push_cast] nbyt116 narr117 nint117 nsls117 nstr117 nbyt117
end Go.Proofs.Ytmgpfckkafcllaa.Hv
