/- The table of types that the walk over an abstract heap looks up. -/
import Derived.Test.YtnaiaacgcjikiaaProg
import Derived.Test.YtnaiaacgcjikiaaHvSet
namespace Go.Proofs.Ytnaiaacgcjikiaa.Hv
open Go Go.RowKit
def T : Tbl where
  sls := [(22, ⟨32, 1, 24, .slice none 0 0⟩), (23, ⟨3, 1, 8, .int .i64 0⟩), (27, ⟨28, 1, 8, .pointer none⟩), (32, ⟨9, 1, 16, .string ⟨#[]⟩⟩), (34, ⟨39, 3, 40, .agg #[.int .i64 0, .string ⟨#[]⟩, .string ⟨#[]⟩]⟩), (35, ⟨4, 1, 1, .bool false⟩), (45, ⟨5, 1, 1, .int .u8 0⟩), (48, ⟨50, 5, 56, .agg #[.int .i64 0, .int .i64 0, .int .i64 0, .string ⟨#[]⟩, .string ⟨#[]⟩]⟩)]
  szs := [(3, none), (4, none), (5, none), (9, none), (22, none), (23, none), (25, none), (27, none), (28, none), (29, none), (32, none), (34, none), (35, none), (36, none), (39, some 3), (45, none), (47, none), (48, none), (50, some 5), (54, none), (55, none), (57, some 3), (58, none), (60, some 3), (62, none), (63, some 64), (65, some 65), (68, none), (69, none), (73, none), (75, none), (76, none), (79, none), (82, none), (87, none), (91, none), (100, none), (108, none), (112, none), (116, none)]
  flds := [(39, [(0, 0), (1, 1), (2, 2)]), (50, [(0, 0), (1, 1), (2, 2), (3, 3), (4, 4)]), (57, [(0, 0), (1, 1), (2, 2)]), (60, [(0, 0), (1, 1), (2, 2)]), (65, [(0, 0), (1, 1)])]
  ints := [(3, .i64), (5, .u8), (29, .i64), (36, .u64), (87, .u64), (91, .i64), (100, .u32), (108, .u64)]
  strs := [9]
  zeros := [(3, .int .i64 0), (4, .bool false), (5, .int .u8 0), (9, .string ⟨#[]⟩), (22, .slice none 0 0), (23, .slice none 0 0), (25, .pointer none), (27, .slice none 0 0), (28, .pointer none), (29, .int .i64 0), (32, .slice none 0 0), (34, .slice none 0 0), (35, .slice none 0 0), (36, .int .u64 0), (39, .agg #[.int .i64 0, .string ⟨#[]⟩, .string ⟨#[]⟩]), (45, .slice none 0 0), (47, .nilFunc), (48, .slice none 0 0), (50, .agg #[.int .i64 0, .int .i64 0, .int .i64 0, .string ⟨#[]⟩, .string ⟨#[]⟩]), (54, .map none), (55, .map none), (57, .agg #[.map none, .map none, .map none]), (58, .map none), (60, .agg #[.int .i64 0, .bool false, .map none]), (62, .map none), (63, .agg #[.int .u8 0, .int .u8 0, .int .u8 0, .int .u8 0, .int .u8 0, .int .u8 0, .int .u8 0, .int .u8 0, .int .u8 0, .int .u8 0, .int .u8 0, .int .u8 0, .int .u8 0, .int .u8 0, .int .u8 0, .int .u8 0, .int .u8 0, .int .u8 0, .int .u8 0, .int .u8 0, .int .u8 0, .int .u8 0, .int .u8 0, .int .u8 0, .int .u8 0, .int .u8 0, .int .u8 0, .int .u8 0, .int .u8 0, .int .u8 0, .int .u8 0, .int .u8 0, .int .u8 0, .int .u8 0, .int .u8 0, .int .u8 0, .int .u8 0, .int .u8 0, .int .u8 0, .int .u8 0, .int .u8 0, .int .u8 0, .int .u8 0, .int .u8 0, .int .u8 0, .int .u8 0, .int .u8 0, .int .u8 0, .int .u8 0, .int .u8 0, .int .u8 0, .int .u8 0, .int .u8 0, .int .u8 0, .int .u8 0, .int .u8 0, .int .u8 0, .int .u8 0, .int .u8 0, .int .u8 0, .int .u8 0, .int .u8 0, .int .u8 0, .int .u8 0]), (65, .agg #[.int .i64 0, .int .u8 0, .int .u8 0, .int .u8 0, .int .u8 0, .int .u8 0, .int .u8 0, .int .u8 0, .int .u8 0, .int .u8 0, .int .u8 0, .int .u8 0, .int .u8 0, .int .u8 0, .int .u8 0, .int .u8 0, .int .u8 0, .int .u8 0, .int .u8 0, .int .u8 0, .int .u8 0, .int .u8 0, .int .u8 0, .int .u8 0, .int .u8 0, .int .u8 0, .int .u8 0, .int .u8 0, .int .u8 0, .int .u8 0, .int .u8 0, .int .u8 0, .int .u8 0, .int .u8 0, .int .u8 0, .int .u8 0, .int .u8 0, .int .u8 0, .int .u8 0, .int .u8 0, .int .u8 0, .int .u8 0, .int .u8 0, .int .u8 0, .int .u8 0, .int .u8 0, .int .u8 0, .int .u8 0, .int .u8 0, .int .u8 0, .int .u8 0, .int .u8 0, .int .u8 0, .int .u8 0, .int .u8 0, .int .u8 0, .int .u8 0, .int .u8 0, .int .u8 0, .int .u8 0, .int .u8 0, .int .u8 0, .int .u8 0, .int .u8 0, .int .u8 0]), (68, .nilFunc), (69, .nilFunc), (73, .map none), (75, .nilFunc), (76, .nilFunc), (79, .nilFunc), (82, .nilFunc), (87, .int .u64 0), (91, .int .i64 0), (100, .int .u32 0), (108, .int .u64 0), (112, .pointer none), (116, .pointer none)]
  fszs := [(39, [(0, 1), (1, 1), (2, 1)]), (50, [(0, 1), (1, 1), (2, 1), (3, 1), (4, 1)]), (57, [(0, 1), (1, 1), (2, 1)]), (60, [(0, 1), (1, 1), (2, 1)]), (65, [(0, 1), (1, 64)])]
  eqs := [(39, (eqFl [.int .i64, .str, .str])), (50, (eqFl [.int .i64, .int .i64, .int .i64, .str, .str]))]
  ptrs := [25, 28, 112, 116]
  bools := [4]
  arrs := [(63, 64, 5, 1)]
  byts := [45]
  maps := [(54, ⟨65, 3, .int .i64 0⟩), (55, ⟨28, 4, .bool false⟩), (58, ⟨65, 39, .agg #[.int .i64 0, .string ⟨#[]⟩, .string ⟨#[]⟩]⟩), (62, ⟨9, 4, .bool false⟩), (73, ⟨3, 4, .bool false⟩)]
  keys := [(65, [.int .i64, .int .u8, .int .u8, .int .u8, .int .u8, .int .u8, .int .u8, .int .u8, .int .u8, .int .u8, .int .u8, .int .u8, .int .u8, .int .u8, .int .u8, .int .u8, .int .u8, .int .u8, .int .u8, .int .u8, .int .u8, .int .u8, .int .u8, .int .u8, .int .u8, .int .u8, .int .u8, .int .u8, .int .u8, .int .u8, .int .u8, .int .u8, .int .u8, .int .u8, .int .u8, .int .u8, .int .u8, .int .u8, .int .u8, .int .u8, .int .u8, .int .u8, .int .u8, .int .u8, .int .u8, .int .u8, .int .u8, .int .u8, .int .u8, .int .u8, .int .u8, .int .u8, .int .u8, .int .u8, .int .u8, .int .u8, .int .u8, .int .u8, .int .u8, .int .u8, .int .u8, .int .u8, .int .u8, .int .u8, .int .u8])]
  pks := [25, 28, 112, 116]
set_option maxRecDepth 20000 in
theorem TOk : T.Ok Try.prog where
  sls := List.forall_mem_cons.2 ⟨ElemT.mk' (by kernel_rfl) (by kernel_rfl) rfl (by decide) (by decide), List.forall_mem_cons.2 ⟨ElemT.mk' (by kernel_rfl) (by kernel_rfl) rfl (by decide) (by decide), List.forall_mem_cons.2 ⟨ElemT.mk' (by kernel_rfl) (by kernel_rfl) rfl (by decide) (by decide), List.forall_mem_cons.2 ⟨ElemT.mk' (by kernel_rfl) (by kernel_rfl) rfl (by decide) (by decide), List.forall_mem_cons.2 ⟨ElemT.mk' (by kernel_rfl) (by kernel_rfl) rfl (by decide) (by decide), List.forall_mem_cons.2 ⟨ElemT.mk' (by kernel_rfl) (by kernel_rfl) rfl (by decide) (by decide), List.forall_mem_cons.2 ⟨ElemT.mk' (by kernel_rfl) (by kernel_rfl) rfl (by decide) (by decide), List.forall_mem_cons.2 ⟨ElemT.mk' (by kernel_rfl) (by kernel_rfl) rfl (by decide) (by decide), fun _ h => absurd h List.not_mem_nil⟩⟩⟩⟩⟩⟩⟩⟩
  szs := List.forall_mem_cons.2 ⟨⟨by kernel_rfl, by kernel_rfl⟩, List.forall_mem_cons.2 ⟨⟨by kernel_rfl, by kernel_rfl⟩, List.forall_mem_cons.2 ⟨⟨by kernel_rfl, by kernel_rfl⟩, List.forall_mem_cons.2 ⟨⟨by kernel_rfl, by kernel_rfl⟩, List.forall_mem_cons.2 ⟨⟨by kernel_rfl, by kernel_rfl⟩, List.forall_mem_cons.2 ⟨⟨by kernel_rfl, by kernel_rfl⟩, List.forall_mem_cons.2 ⟨⟨by kernel_rfl, by kernel_rfl⟩, List.forall_mem_cons.2 ⟨⟨by kernel_rfl, by kernel_rfl⟩, List.forall_mem_cons.2 ⟨⟨by kernel_rfl, by kernel_rfl⟩, List.forall_mem_cons.2 ⟨⟨by kernel_rfl, by kernel_rfl⟩, List.forall_mem_cons.2 ⟨⟨by kernel_rfl, by kernel_rfl⟩, List.forall_mem_cons.2 ⟨⟨by kernel_rfl, by kernel_rfl⟩, List.forall_mem_cons.2 ⟨⟨by kernel_rfl, by kernel_rfl⟩, List.forall_mem_cons.2 ⟨⟨by kernel_rfl, by kernel_rfl⟩, List.forall_mem_cons.2 ⟨⟨by kernel_rfl, by kernel_rfl⟩, List.forall_mem_cons.2 ⟨⟨by kernel_rfl, by kernel_rfl⟩, List.forall_mem_cons.2 ⟨⟨by kernel_rfl, by kernel_rfl⟩, List.forall_mem_cons.2 ⟨⟨by kernel_rfl, by kernel_rfl⟩, List.forall_mem_cons.2 ⟨⟨by kernel_rfl, by kernel_rfl⟩, List.forall_mem_cons.2 ⟨⟨by kernel_rfl, by kernel_rfl⟩, List.forall_mem_cons.2 ⟨⟨by kernel_rfl, by kernel_rfl⟩, List.forall_mem_cons.2 ⟨⟨by kernel_rfl, by kernel_rfl⟩, List.forall_mem_cons.2 ⟨⟨by kernel_rfl, by kernel_rfl⟩, List.forall_mem_cons.2 ⟨⟨by kernel_rfl, by kernel_rfl⟩, List.forall_mem_cons.2 ⟨⟨by kernel_rfl, by kernel_rfl⟩, List.forall_mem_cons.2 ⟨⟨by kernel_rfl, by kernel_rfl⟩, List.forall_mem_cons.2 ⟨⟨by kernel_rfl, by kernel_rfl⟩, List.forall_mem_cons.2 ⟨⟨by kernel_rfl, by kernel_rfl⟩, List.forall_mem_cons.2 ⟨⟨by kernel_rfl, by kernel_rfl⟩, List.forall_mem_cons.2 ⟨⟨by kernel_rfl, by kernel_rfl⟩, List.forall_mem_cons.2 ⟨⟨by kernel_rfl, by kernel_rfl⟩, List.forall_mem_cons.2 ⟨⟨by kernel_rfl, by kernel_rfl⟩, List.forall_mem_cons.2 ⟨⟨by kernel_rfl, by kernel_rfl⟩, List.forall_mem_cons.2 ⟨⟨by kernel_rfl, by kernel_rfl⟩, List.forall_mem_cons.2 ⟨⟨by kernel_rfl, by kernel_rfl⟩, List.forall_mem_cons.2 ⟨⟨by kernel_rfl, by kernel_rfl⟩, List.forall_mem_cons.2 ⟨⟨by kernel_rfl, by kernel_rfl⟩, List.forall_mem_cons.2 ⟨⟨by kernel_rfl, by kernel_rfl⟩, List.forall_mem_cons.2 ⟨⟨by kernel_rfl, by kernel_rfl⟩, List.forall_mem_cons.2 ⟨⟨by kernel_rfl, by kernel_rfl⟩, fun _ h => absurd h List.not_mem_nil⟩⟩⟩⟩⟩⟩⟩⟩⟩⟩⟩⟩⟩⟩⟩⟩⟩⟩⟩⟩⟩⟩⟩⟩⟩⟩⟩⟩⟩⟩⟩⟩⟩⟩⟩⟩⟩⟩⟩⟩
  flds := List.forall_mem_cons.2 ⟨(List.forall_mem_cons.2 ⟨by kernel_rfl, List.forall_mem_cons.2 ⟨by kernel_rfl, List.forall_mem_cons.2 ⟨by kernel_rfl, fun _ h => absurd h List.not_mem_nil⟩⟩⟩), List.forall_mem_cons.2 ⟨(List.forall_mem_cons.2 ⟨by kernel_rfl, List.forall_mem_cons.2 ⟨by kernel_rfl, List.forall_mem_cons.2 ⟨by kernel_rfl, List.forall_mem_cons.2 ⟨by kernel_rfl, List.forall_mem_cons.2 ⟨by kernel_rfl, fun _ h => absurd h List.not_mem_nil⟩⟩⟩⟩⟩), List.forall_mem_cons.2 ⟨(List.forall_mem_cons.2 ⟨by kernel_rfl, List.forall_mem_cons.2 ⟨by kernel_rfl, List.forall_mem_cons.2 ⟨by kernel_rfl, fun _ h => absurd h List.not_mem_nil⟩⟩⟩), List.forall_mem_cons.2 ⟨(List.forall_mem_cons.2 ⟨by kernel_rfl, List.forall_mem_cons.2 ⟨by kernel_rfl, List.forall_mem_cons.2 ⟨by kernel_rfl, fun _ h => absurd h List.not_mem_nil⟩⟩⟩), List.forall_mem_cons.2 ⟨(List.forall_mem_cons.2 ⟨by kernel_rfl, List.forall_mem_cons.2 ⟨by kernel_rfl, fun _ h => absurd h List.not_mem_nil⟩⟩), fun _ h => absurd h List.not_mem_nil⟩⟩⟩⟩⟩
  ints := List.forall_mem_cons.2 ⟨by kernel_rfl, List.forall_mem_cons.2 ⟨by kernel_rfl, List.forall_mem_cons.2 ⟨by kernel_rfl, List.forall_mem_cons.2 ⟨by kernel_rfl, List.forall_mem_cons.2 ⟨by kernel_rfl, List.forall_mem_cons.2 ⟨by kernel_rfl, List.forall_mem_cons.2 ⟨by kernel_rfl, List.forall_mem_cons.2 ⟨by kernel_rfl, fun _ h => absurd h List.not_mem_nil⟩⟩⟩⟩⟩⟩⟩⟩
  strs := List.forall_mem_cons.2 ⟨by kernel_rfl, fun _ h => absurd h List.not_mem_nil⟩
  zeros := List.forall_mem_cons.2 ⟨by unfold okZero; kernel_rfl, List.forall_mem_cons.2 ⟨by unfold okZero; kernel_rfl, List.forall_mem_cons.2 ⟨by unfold okZero; kernel_rfl, List.forall_mem_cons.2 ⟨by unfold okZero; kernel_rfl, List.forall_mem_cons.2 ⟨by unfold okZero; kernel_rfl, List.forall_mem_cons.2 ⟨by unfold okZero; kernel_rfl, List.forall_mem_cons.2 ⟨by unfold okZero; kernel_rfl, List.forall_mem_cons.2 ⟨by unfold okZero; kernel_rfl, List.forall_mem_cons.2 ⟨by unfold okZero; kernel_rfl, List.forall_mem_cons.2 ⟨by unfold okZero; kernel_rfl, List.forall_mem_cons.2 ⟨by unfold okZero; kernel_rfl, List.forall_mem_cons.2 ⟨by unfold okZero; kernel_rfl, List.forall_mem_cons.2 ⟨by unfold okZero; kernel_rfl, List.forall_mem_cons.2 ⟨by unfold okZero; kernel_rfl, List.forall_mem_cons.2 ⟨by unfold okZero; kernel_rfl, List.forall_mem_cons.2 ⟨by unfold okZero; kernel_rfl, List.forall_mem_cons.2 ⟨by unfold okZero; kernel_rfl, List.forall_mem_cons.2 ⟨by unfold okZero; kernel_rfl, List.forall_mem_cons.2 ⟨by unfold okZero; kernel_rfl, List.forall_mem_cons.2 ⟨by unfold okZero; kernel_rfl, List.forall_mem_cons.2 ⟨by unfold okZero; kernel_rfl, List.forall_mem_cons.2 ⟨by unfold okZero; kernel_rfl, List.forall_mem_cons.2 ⟨by unfold okZero; kernel_rfl, List.forall_mem_cons.2 ⟨by unfold okZero; kernel_rfl, List.forall_mem_cons.2 ⟨by unfold okZero; kernel_rfl, List.forall_mem_cons.2 ⟨by unfold okZero; kernel_rfl, List.forall_mem_cons.2 ⟨by unfold okZero; kernel_rfl, List.forall_mem_cons.2 ⟨by unfold okZero; kernel_rfl, List.forall_mem_cons.2 ⟨by unfold okZero; kernel_rfl, List.forall_mem_cons.2 ⟨by unfold okZero; kernel_rfl, List.forall_mem_cons.2 ⟨by unfold okZero; kernel_rfl, List.forall_mem_cons.2 ⟨by unfold okZero; kernel_rfl, List.forall_mem_cons.2 ⟨by unfold okZero; kernel_rfl, List.forall_mem_cons.2 ⟨by unfold okZero; kernel_rfl, List.forall_mem_cons.2 ⟨by unfold okZero; kernel_rfl, List.forall_mem_cons.2 ⟨by unfold okZero; kernel_rfl, List.forall_mem_cons.2 ⟨by unfold okZero; kernel_rfl, List.forall_mem_cons.2 ⟨by unfold okZero; kernel_rfl, List.forall_mem_cons.2 ⟨by unfold okZero; kernel_rfl, List.forall_mem_cons.2 ⟨by unfold okZero; kernel_rfl, fun _ h => absurd h List.not_mem_nil⟩⟩⟩⟩⟩⟩⟩⟩⟩⟩⟩⟩⟩⟩⟩⟩⟩⟩⟩⟩⟩⟩⟩⟩⟩⟩⟩⟩⟩⟩⟩⟩⟩⟩⟩⟩⟩⟩⟩⟩
  fszs := List.forall_mem_cons.2 ⟨by unfold okFsz; kernel_rfl, List.forall_mem_cons.2 ⟨by unfold okFsz; kernel_rfl, List.forall_mem_cons.2 ⟨by unfold okFsz; kernel_rfl, List.forall_mem_cons.2 ⟨by unfold okFsz; kernel_rfl, List.forall_mem_cons.2 ⟨by unfold okFsz; kernel_rfl, fun _ h => absurd h List.not_mem_nil⟩⟩⟩⟩⟩
  eqs := List.forall_mem_cons.2 ⟨okEq_flat ⟨by kernel_rfl, by kernel_rfl⟩ (by kernel_rfl), List.forall_mem_cons.2 ⟨okEq_flat ⟨by kernel_rfl, by kernel_rfl⟩ (by kernel_rfl), fun _ h => absurd h List.not_mem_nil⟩⟩
  ptrs := List.forall_mem_cons.2 ⟨by unfold okPtr; kernel_rfl, List.forall_mem_cons.2 ⟨by unfold okPtr; kernel_rfl, List.forall_mem_cons.2 ⟨by unfold okPtr; kernel_rfl, List.forall_mem_cons.2 ⟨by unfold okPtr; kernel_rfl, fun _ h => absurd h List.not_mem_nil⟩⟩⟩⟩
  bools := List.forall_mem_cons.2 ⟨by kernel_rfl, fun _ h => absurd h List.not_mem_nil⟩
  arrs := List.forall_mem_cons.2 ⟨⟨by kernel_rfl, by kernel_rfl⟩, fun _ h => absurd h List.not_mem_nil⟩
  byts := List.forall_mem_cons.2 ⟨⟨5, by kernel_rfl, by kernel_rfl, by kernel_rfl⟩, fun _ h => absurd h List.not_mem_nil⟩
  maps := List.forall_mem_cons.2 ⟨⟨by kernel_rfl, by kernel_rfl⟩, List.forall_mem_cons.2 ⟨⟨by kernel_rfl, by kernel_rfl⟩, List.forall_mem_cons.2 ⟨⟨by kernel_rfl, by kernel_rfl⟩, List.forall_mem_cons.2 ⟨⟨by kernel_rfl, by kernel_rfl⟩, List.forall_mem_cons.2 ⟨⟨by kernel_rfl, by kernel_rfl⟩, fun _ h => absurd h List.not_mem_nil⟩⟩⟩⟩⟩
  keys := List.forall_mem_cons.2 ⟨⟨by kernel_rfl, by kernel_rfl⟩, fun _ h => absurd h List.not_mem_nil⟩
  pks := List.forall_mem_cons.2 ⟨by kernel_rfl, List.forall_mem_cons.2 ⟨by kernel_rfl, List.forall_mem_cons.2 ⟨by kernel_rfl, List.forall_mem_cons.2 ⟨by kernel_rfl, fun _ h => absurd h List.not_mem_nil⟩⟩⟩⟩
theorem pks25 : T.pks.elem 25 = true := rfl
theorem pks28 : T.pks.elem 28 = true := rfl
theorem pks112 : T.pks.elem 112 = true := rfl
theorem pks116 : T.pks.elem 116 = true := rfl
theorem keys65 : lk? T.keys 65 = some [.int .i64, .int .u8, .int .u8, .int .u8, .int .u8, .int .u8, .int .u8, .int .u8, .int .u8, .int .u8, .int .u8, .int .u8, .int .u8, .int .u8, .int .u8, .int .u8, .int .u8, .int .u8, .int .u8, .int .u8, .int .u8, .int .u8, .int .u8, .int .u8, .int .u8, .int .u8, .int .u8, .int .u8, .int .u8, .int .u8, .int .u8, .int .u8, .int .u8, .int .u8, .int .u8, .int .u8, .int .u8, .int .u8, .int .u8, .int .u8, .int .u8, .int .u8, .int .u8, .int .u8, .int .u8, .int .u8, .int .u8, .int .u8, .int .u8, .int .u8, .int .u8, .int .u8, .int .u8, .int .u8, .int .u8, .int .u8, .int .u8, .int .u8, .int .u8, .int .u8, .int .u8, .int .u8, .int .u8, .int .u8, .int .u8] := rfl
theorem zeros3 : lk? T.zeros 3 = some (.int .i64 0) := rfl
theorem zeros4 : lk? T.zeros 4 = some (.bool false) := rfl
theorem zeros5 : lk? T.zeros 5 = some (.int .u8 0) := rfl
theorem zeros9 : lk? T.zeros 9 = some (.string ⟨#[]⟩) := rfl
theorem zeros22 : lk? T.zeros 22 = some (.slice none 0 0) := rfl
theorem zeros23 : lk? T.zeros 23 = some (.slice none 0 0) := rfl
theorem zeros25 : lk? T.zeros 25 = some (.pointer none) := rfl
theorem zeros27 : lk? T.zeros 27 = some (.slice none 0 0) := rfl
theorem zeros28 : lk? T.zeros 28 = some (.pointer none) := rfl
theorem zeros29 : lk? T.zeros 29 = some (.int .i64 0) := rfl
theorem zeros32 : lk? T.zeros 32 = some (.slice none 0 0) := rfl
theorem zeros34 : lk? T.zeros 34 = some (.slice none 0 0) := rfl
theorem zeros35 : lk? T.zeros 35 = some (.slice none 0 0) := rfl
theorem zeros36 : lk? T.zeros 36 = some (.int .u64 0) := rfl
theorem zeros39 : lk? T.zeros 39 = some (.agg #[.int .i64 0, .string ⟨#[]⟩, .string ⟨#[]⟩]) := rfl
theorem zeros45 : lk? T.zeros 45 = some (.slice none 0 0) := rfl
theorem zeros47 : lk? T.zeros 47 = some (.nilFunc) := rfl
theorem zeros48 : lk? T.zeros 48 = some (.slice none 0 0) := rfl
theorem zeros50 : lk? T.zeros 50 = some (.agg #[.int .i64 0, .int .i64 0, .int .i64 0, .string ⟨#[]⟩, .string ⟨#[]⟩]) := rfl
theorem zeros54 : lk? T.zeros 54 = some (.map none) := rfl
theorem zeros55 : lk? T.zeros 55 = some (.map none) := rfl
theorem zeros57 : lk? T.zeros 57 = some (.agg #[.map none, .map none, .map none]) := rfl
theorem zeros58 : lk? T.zeros 58 = some (.map none) := rfl
theorem zeros60 : lk? T.zeros 60 = some (.agg #[.int .i64 0, .bool false, .map none]) := rfl
theorem zeros62 : lk? T.zeros 62 = some (.map none) := rfl
theorem zeros63 : lk? T.zeros 63 = some (.agg #[.int .u8 0, .int .u8 0, .int .u8 0, .int .u8 0, .int .u8 0, .int .u8 0, .int .u8 0, .int .u8 0, .int .u8 0, .int .u8 0, .int .u8 0, .int .u8 0, .int .u8 0, .int .u8 0, .int .u8 0, .int .u8 0, .int .u8 0, .int .u8 0, .int .u8 0, .int .u8 0, .int .u8 0, .int .u8 0, .int .u8 0, .int .u8 0, .int .u8 0, .int .u8 0, .int .u8 0, .int .u8 0, .int .u8 0, .int .u8 0, .int .u8 0, .int .u8 0, .int .u8 0, .int .u8 0, .int .u8 0, .int .u8 0, .int .u8 0, .int .u8 0, .int .u8 0, .int .u8 0, .int .u8 0, .int .u8 0, .int .u8 0, .int .u8 0, .int .u8 0, .int .u8 0, .int .u8 0, .int .u8 0, .int .u8 0, .int .u8 0, .int .u8 0, .int .u8 0, .int .u8 0, .int .u8 0, .int .u8 0, .int .u8 0, .int .u8 0, .int .u8 0, .int .u8 0, .int .u8 0, .int .u8 0, .int .u8 0, .int .u8 0, .int .u8 0]) := rfl
theorem zeros65 : lk? T.zeros 65 = some (.agg #[.int .i64 0, .int .u8 0, .int .u8 0, .int .u8 0, .int .u8 0, .int .u8 0, .int .u8 0, .int .u8 0, .int .u8 0, .int .u8 0, .int .u8 0, .int .u8 0, .int .u8 0, .int .u8 0, .int .u8 0, .int .u8 0, .int .u8 0, .int .u8 0, .int .u8 0, .int .u8 0, .int .u8 0, .int .u8 0, .int .u8 0, .int .u8 0, .int .u8 0, .int .u8 0, .int .u8 0, .int .u8 0, .int .u8 0, .int .u8 0, .int .u8 0, .int .u8 0, .int .u8 0, .int .u8 0, .int .u8 0, .int .u8 0, .int .u8 0, .int .u8 0, .int .u8 0, .int .u8 0, .int .u8 0, .int .u8 0, .int .u8 0, .int .u8 0, .int .u8 0, .int .u8 0, .int .u8 0, .int .u8 0, .int .u8 0, .int .u8 0, .int .u8 0, .int .u8 0, .int .u8 0, .int .u8 0, .int .u8 0, .int .u8 0, .int .u8 0, .int .u8 0, .int .u8 0, .int .u8 0, .int .u8 0, .int .u8 0, .int .u8 0, .int .u8 0, .int .u8 0]) := rfl
theorem zeros68 : lk? T.zeros 68 = some (.nilFunc) := rfl
theorem zeros69 : lk? T.zeros 69 = some (.nilFunc) := rfl
theorem zeros73 : lk? T.zeros 73 = some (.map none) := rfl
theorem zeros75 : lk? T.zeros 75 = some (.nilFunc) := rfl
theorem zeros76 : lk? T.zeros 76 = some (.nilFunc) := rfl
theorem zeros79 : lk? T.zeros 79 = some (.nilFunc) := rfl
theorem zeros82 : lk? T.zeros 82 = some (.nilFunc) := rfl
theorem zeros87 : lk? T.zeros 87 = some (.int .u64 0) := rfl
theorem zeros91 : lk? T.zeros 91 = some (.int .i64 0) := rfl
theorem zeros100 : lk? T.zeros 100 = some (.int .u32 0) := rfl
theorem zeros108 : lk? T.zeros 108 = some (.int .u64 0) := rfl
theorem zeros112 : lk? T.zeros 112 = some (.pointer none) := rfl
theorem zeros116 : lk? T.zeros 116 = some (.pointer none) := rfl
theorem fszs39 : lk? T.fszs 39 = some [(0, 1), (1, 1), (2, 1)] := rfl
theorem fszs50 : lk? T.fszs 50 = some [(0, 1), (1, 1), (2, 1), (3, 1), (4, 1)] := rfl
theorem fszs57 : lk? T.fszs 57 = some [(0, 1), (1, 1), (2, 1)] := rfl
theorem fszs60 : lk? T.fszs 60 = some [(0, 1), (1, 1), (2, 1)] := rfl
theorem fszs65 : lk? T.fszs 65 = some [(0, 1), (1, 64)] := rfl
theorem eqs39 : lk? T.eqs 39 = some (eqFl [.int .i64, .str, .str]) := rfl
theorem eqs50 : lk? T.eqs 50 = some (eqFl [.int .i64, .int .i64, .int .i64, .str, .str]) := rfl
theorem sls22 : lk? T.sls 22 = some ⟨32, 1, 24, .slice none 0 0⟩ := rfl
theorem sls23 : lk? T.sls 23 = some ⟨3, 1, 8, .int .i64 0⟩ := rfl
theorem sls27 : lk? T.sls 27 = some ⟨28, 1, 8, .pointer none⟩ := rfl
theorem sls32 : lk? T.sls 32 = some ⟨9, 1, 16, .string ⟨#[]⟩⟩ := rfl
theorem sls34 : lk? T.sls 34 = some ⟨39, 3, 40, .agg #[.int .i64 0, .string ⟨#[]⟩, .string ⟨#[]⟩]⟩ := rfl
theorem sls35 : lk? T.sls 35 = some ⟨4, 1, 1, .bool false⟩ := rfl
theorem sls45 : lk? T.sls 45 = some ⟨5, 1, 1, .int .u8 0⟩ := rfl
theorem sls48 : lk? T.sls 48 = some ⟨50, 5, 56, .agg #[.int .i64 0, .int .i64 0, .int .i64 0, .string ⟨#[]⟩, .string ⟨#[]⟩]⟩ := rfl
theorem szs3 : lk? T.szs 3 = some none := rfl
theorem szs4 : lk? T.szs 4 = some none := rfl
theorem szs5 : lk? T.szs 5 = some none := rfl
theorem szs9 : lk? T.szs 9 = some none := rfl
theorem szs22 : lk? T.szs 22 = some none := rfl
theorem szs23 : lk? T.szs 23 = some none := rfl
theorem szs25 : lk? T.szs 25 = some none := rfl
theorem szs27 : lk? T.szs 27 = some none := rfl
theorem szs28 : lk? T.szs 28 = some none := rfl
theorem szs29 : lk? T.szs 29 = some none := rfl
theorem szs32 : lk? T.szs 32 = some none := rfl
theorem szs34 : lk? T.szs 34 = some none := rfl
theorem szs35 : lk? T.szs 35 = some none := rfl
theorem szs36 : lk? T.szs 36 = some none := rfl
theorem szs39 : lk? T.szs 39 = some (some 3) := rfl
theorem szs45 : lk? T.szs 45 = some none := rfl
theorem szs47 : lk? T.szs 47 = some none := rfl
theorem szs48 : lk? T.szs 48 = some none := rfl
theorem szs50 : lk? T.szs 50 = some (some 5) := rfl
theorem szs54 : lk? T.szs 54 = some none := rfl
theorem szs55 : lk? T.szs 55 = some none := rfl
theorem szs57 : lk? T.szs 57 = some (some 3) := rfl
theorem szs58 : lk? T.szs 58 = some none := rfl
theorem szs60 : lk? T.szs 60 = some (some 3) := rfl
theorem szs62 : lk? T.szs 62 = some none := rfl
theorem szs63 : lk? T.szs 63 = some (some 64) := rfl
theorem szs65 : lk? T.szs 65 = some (some 65) := rfl
theorem szs68 : lk? T.szs 68 = some none := rfl
theorem szs69 : lk? T.szs 69 = some none := rfl
theorem szs73 : lk? T.szs 73 = some none := rfl
theorem szs75 : lk? T.szs 75 = some none := rfl
theorem szs76 : lk? T.szs 76 = some none := rfl
theorem szs79 : lk? T.szs 79 = some none := rfl
theorem szs82 : lk? T.szs 82 = some none := rfl
theorem szs87 : lk? T.szs 87 = some none := rfl
theorem szs91 : lk? T.szs 91 = some none := rfl
theorem szs100 : lk? T.szs 100 = some none := rfl
theorem szs108 : lk? T.szs 108 = some none := rfl
theorem szs112 : lk? T.szs 112 = some none := rfl
theorem szs116 : lk? T.szs 116 = some none := rfl
theorem fld39_0 : T.fld 39 0 = some 0 := rfl
theorem fld39_1 : T.fld 39 1 = some 1 := rfl
theorem fld39_2 : T.fld 39 2 = some 2 := rfl
theorem fld50_0 : T.fld 50 0 = some 0 := rfl
theorem fld50_1 : T.fld 50 1 = some 1 := rfl
theorem fld50_2 : T.fld 50 2 = some 2 := rfl
theorem fld50_3 : T.fld 50 3 = some 3 := rfl
theorem fld50_4 : T.fld 50 4 = some 4 := rfl
theorem fld57_0 : T.fld 57 0 = some 0 := rfl
theorem fld57_1 : T.fld 57 1 = some 1 := rfl
theorem fld57_2 : T.fld 57 2 = some 2 := rfl
theorem fld60_0 : T.fld 60 0 = some 0 := rfl
theorem fld60_1 : T.fld 60 1 = some 1 := rfl
theorem fld60_2 : T.fld 60 2 = some 2 := rfl
theorem fld65_0 : T.fld 65 0 = some 0 := rfl
theorem fld65_1 : T.fld 65 1 = some 1 := rfl
theorem ints3 : lk? T.ints 3 = some .i64 := rfl
theorem ints5 : lk? T.ints 5 = some .u8 := rfl
theorem ints29 : lk? T.ints 29 = some .i64 := rfl
theorem ints36 : lk? T.ints 36 = some .u64 := rfl
theorem ints87 : lk? T.ints 87 = some .u64 := rfl
theorem ints91 : lk? T.ints 91 = some .i64 := rfl
theorem ints100 : lk? T.ints 100 = some .u32 := rfl
theorem ints108 : lk? T.ints 108 = some .u64 := rfl
theorem strs9 : T.strs.elem 9 = true := rfl
theorem ptrs25 : T.ptrs.elem 25 = true := rfl
theorem ptrs28 : T.ptrs.elem 28 = true := rfl
theorem ptrs112 : T.ptrs.elem 112 = true := rfl
theorem ptrs116 : T.ptrs.elem 116 = true := rfl
theorem bools4 : T.bools.elem 4 = true := rfl
theorem nptr4 : T.ptrs.elem 4 = false := rfl
theorem arrs63 : lk? T.arrs 63 = some (64, 5, 1) := rfl
theorem byts45 : T.byts.elem 45 = true := rfl
theorem maps54 : lk? T.maps 54 = some ⟨65, 3, .int .i64 0⟩ := rfl
theorem maps55 : lk? T.maps 55 = some ⟨28, 4, .bool false⟩ := rfl
theorem maps58 : lk? T.maps 58 = some ⟨65, 39, .agg #[.int .i64 0, .string ⟨#[]⟩, .string ⟨#[]⟩]⟩ := rfl
theorem maps62 : lk? T.maps 62 = some ⟨9, 4, .bool false⟩ := rfl
theorem maps73 : lk? T.maps 73 = some ⟨3, 4, .bool false⟩ := rfl
theorem narr0 : lk? T.arrs 0 = none := rfl
theorem nint0 : lk? T.ints 0 = none := rfl
theorem nsls0 : lk? T.sls 0 = none := rfl
theorem nstr0 : T.strs.elem 0 = false := rfl
theorem nbyt0 : T.byts.elem 0 = false := rfl
theorem narr3 : lk? T.arrs 3 = none := rfl
theorem nsls3 : lk? T.sls 3 = none := rfl
theorem nstr3 : T.strs.elem 3 = false := rfl
theorem nbyt3 : T.byts.elem 3 = false := rfl
theorem narr4 : lk? T.arrs 4 = none := rfl
theorem nint4 : lk? T.ints 4 = none := rfl
theorem nsls4 : lk? T.sls 4 = none := rfl
theorem nstr4 : T.strs.elem 4 = false := rfl
theorem nbyt4 : T.byts.elem 4 = false := rfl
theorem narr5 : lk? T.arrs 5 = none := rfl
theorem nsls5 : lk? T.sls 5 = none := rfl
theorem nstr5 : T.strs.elem 5 = false := rfl
theorem nbyt5 : T.byts.elem 5 = false := rfl
theorem narr9 : lk? T.arrs 9 = none := rfl
theorem nint9 : lk? T.ints 9 = none := rfl
theorem nsls9 : lk? T.sls 9 = none := rfl
theorem nbyt9 : T.byts.elem 9 = false := rfl
theorem narr22 : lk? T.arrs 22 = none := rfl
theorem nint22 : lk? T.ints 22 = none := rfl
theorem nstr22 : T.strs.elem 22 = false := rfl
theorem nbyt22 : T.byts.elem 22 = false := rfl
theorem narr23 : lk? T.arrs 23 = none := rfl
theorem nint23 : lk? T.ints 23 = none := rfl
theorem nstr23 : T.strs.elem 23 = false := rfl
theorem nbyt23 : T.byts.elem 23 = false := rfl
theorem narr25 : lk? T.arrs 25 = none := rfl
theorem nint25 : lk? T.ints 25 = none := rfl
theorem nsls25 : lk? T.sls 25 = none := rfl
theorem nstr25 : T.strs.elem 25 = false := rfl
theorem nbyt25 : T.byts.elem 25 = false := rfl
theorem narr27 : lk? T.arrs 27 = none := rfl
theorem nint27 : lk? T.ints 27 = none := rfl
theorem nstr27 : T.strs.elem 27 = false := rfl
theorem nbyt27 : T.byts.elem 27 = false := rfl
theorem narr28 : lk? T.arrs 28 = none := rfl
theorem nint28 : lk? T.ints 28 = none := rfl
theorem nsls28 : lk? T.sls 28 = none := rfl
theorem nstr28 : T.strs.elem 28 = false := rfl
theorem nbyt28 : T.byts.elem 28 = false := rfl
theorem narr29 : lk? T.arrs 29 = none := rfl
theorem nsls29 : lk? T.sls 29 = none := rfl
theorem nstr29 : T.strs.elem 29 = false := rfl
theorem nbyt29 : T.byts.elem 29 = false := rfl
theorem narr30 : lk? T.arrs 30 = none := rfl
theorem nint30 : lk? T.ints 30 = none := rfl
theorem nsls30 : lk? T.sls 30 = none := rfl
theorem nstr30 : T.strs.elem 30 = false := rfl
theorem nbyt30 : T.byts.elem 30 = false := rfl
theorem narr32 : lk? T.arrs 32 = none := rfl
theorem nint32 : lk? T.ints 32 = none := rfl
theorem nstr32 : T.strs.elem 32 = false := rfl
theorem nbyt32 : T.byts.elem 32 = false := rfl
theorem narr34 : lk? T.arrs 34 = none := rfl
theorem nint34 : lk? T.ints 34 = none := rfl
theorem nstr34 : T.strs.elem 34 = false := rfl
theorem nbyt34 : T.byts.elem 34 = false := rfl
theorem narr35 : lk? T.arrs 35 = none := rfl
theorem nint35 : lk? T.ints 35 = none := rfl
theorem nstr35 : T.strs.elem 35 = false := rfl
theorem nbyt35 : T.byts.elem 35 = false := rfl
theorem narr36 : lk? T.arrs 36 = none := rfl
theorem nsls36 : lk? T.sls 36 = none := rfl
theorem nstr36 : T.strs.elem 36 = false := rfl
theorem nbyt36 : T.byts.elem 36 = false := rfl
theorem narr39 : lk? T.arrs 39 = none := rfl
theorem nint39 : lk? T.ints 39 = none := rfl
theorem nsls39 : lk? T.sls 39 = none := rfl
theorem nstr39 : T.strs.elem 39 = false := rfl
theorem nbyt39 : T.byts.elem 39 = false := rfl
theorem narr45 : lk? T.arrs 45 = none := rfl
theorem nint45 : lk? T.ints 45 = none := rfl
theorem nstr45 : T.strs.elem 45 = false := rfl
theorem narr47 : lk? T.arrs 47 = none := rfl
theorem nint47 : lk? T.ints 47 = none := rfl
theorem nsls47 : lk? T.sls 47 = none := rfl
theorem nstr47 : T.strs.elem 47 = false := rfl
theorem nbyt47 : T.byts.elem 47 = false := rfl
theorem narr48 : lk? T.arrs 48 = none := rfl
theorem nint48 : lk? T.ints 48 = none := rfl
theorem nstr48 : T.strs.elem 48 = false := rfl
theorem nbyt48 : T.byts.elem 48 = false := rfl
theorem narr50 : lk? T.arrs 50 = none := rfl
theorem nint50 : lk? T.ints 50 = none := rfl
theorem nsls50 : lk? T.sls 50 = none := rfl
theorem nstr50 : T.strs.elem 50 = false := rfl
theorem nbyt50 : T.byts.elem 50 = false := rfl
theorem narr54 : lk? T.arrs 54 = none := rfl
theorem nint54 : lk? T.ints 54 = none := rfl
theorem nsls54 : lk? T.sls 54 = none := rfl
theorem nstr54 : T.strs.elem 54 = false := rfl
theorem nbyt54 : T.byts.elem 54 = false := rfl
theorem narr55 : lk? T.arrs 55 = none := rfl
theorem nint55 : lk? T.ints 55 = none := rfl
theorem nsls55 : lk? T.sls 55 = none := rfl
theorem nstr55 : T.strs.elem 55 = false := rfl
theorem nbyt55 : T.byts.elem 55 = false := rfl
theorem narr57 : lk? T.arrs 57 = none := rfl
theorem nint57 : lk? T.ints 57 = none := rfl
theorem nsls57 : lk? T.sls 57 = none := rfl
theorem nstr57 : T.strs.elem 57 = false := rfl
theorem nbyt57 : T.byts.elem 57 = false := rfl
theorem narr58 : lk? T.arrs 58 = none := rfl
theorem nint58 : lk? T.ints 58 = none := rfl
theorem nsls58 : lk? T.sls 58 = none := rfl
theorem nstr58 : T.strs.elem 58 = false := rfl
theorem nbyt58 : T.byts.elem 58 = false := rfl
theorem narr60 : lk? T.arrs 60 = none := rfl
theorem nint60 : lk? T.ints 60 = none := rfl
theorem nsls60 : lk? T.sls 60 = none := rfl
theorem nstr60 : T.strs.elem 60 = false := rfl
theorem nbyt60 : T.byts.elem 60 = false := rfl
theorem narr62 : lk? T.arrs 62 = none := rfl
theorem nint62 : lk? T.ints 62 = none := rfl
theorem nsls62 : lk? T.sls 62 = none := rfl
theorem nstr62 : T.strs.elem 62 = false := rfl
theorem nbyt62 : T.byts.elem 62 = false := rfl
theorem nint63 : lk? T.ints 63 = none := rfl
theorem nsls63 : lk? T.sls 63 = none := rfl
theorem nstr63 : T.strs.elem 63 = false := rfl
theorem nbyt63 : T.byts.elem 63 = false := rfl
theorem narr65 : lk? T.arrs 65 = none := rfl
theorem nint65 : lk? T.ints 65 = none := rfl
theorem nsls65 : lk? T.sls 65 = none := rfl
theorem nstr65 : T.strs.elem 65 = false := rfl
theorem nbyt65 : T.byts.elem 65 = false := rfl
theorem narr68 : lk? T.arrs 68 = none := rfl
theorem nint68 : lk? T.ints 68 = none := rfl
theorem nsls68 : lk? T.sls 68 = none := rfl
theorem nstr68 : T.strs.elem 68 = false := rfl
theorem nbyt68 : T.byts.elem 68 = false := rfl
theorem narr69 : lk? T.arrs 69 = none := rfl
theorem nint69 : lk? T.ints 69 = none := rfl
theorem nsls69 : lk? T.sls 69 = none := rfl
theorem nstr69 : T.strs.elem 69 = false := rfl
theorem nbyt69 : T.byts.elem 69 = false := rfl
theorem narr73 : lk? T.arrs 73 = none := rfl
theorem nint73 : lk? T.ints 73 = none := rfl
theorem nsls73 : lk? T.sls 73 = none := rfl
theorem nstr73 : T.strs.elem 73 = false := rfl
theorem nbyt73 : T.byts.elem 73 = false := rfl
theorem narr75 : lk? T.arrs 75 = none := rfl
theorem nint75 : lk? T.ints 75 = none := rfl
theorem nsls75 : lk? T.sls 75 = none := rfl
theorem nstr75 : T.strs.elem 75 = false := rfl
theorem nbyt75 : T.byts.elem 75 = false := rfl
theorem narr76 : lk? T.arrs 76 = none := rfl
theorem nint76 : lk? T.ints 76 = none := rfl
theorem nsls76 : lk? T.sls 76 = none := rfl
theorem nstr76 : T.strs.elem 76 = false := rfl
theorem nbyt76 : T.byts.elem 76 = false := rfl
theorem narr79 : lk? T.arrs 79 = none := rfl
theorem nint79 : lk? T.ints 79 = none := rfl
theorem nsls79 : lk? T.sls 79 = none := rfl
theorem nstr79 : T.strs.elem 79 = false := rfl
theorem nbyt79 : T.byts.elem 79 = false := rfl
theorem narr80 : lk? T.arrs 80 = none := rfl
theorem nint80 : lk? T.ints 80 = none := rfl
theorem nsls80 : lk? T.sls 80 = none := rfl
theorem nstr80 : T.strs.elem 80 = false := rfl
theorem nbyt80 : T.byts.elem 80 = false := rfl
theorem narr82 : lk? T.arrs 82 = none := rfl
theorem nint82 : lk? T.ints 82 = none := rfl
theorem nsls82 : lk? T.sls 82 = none := rfl
theorem nstr82 : T.strs.elem 82 = false := rfl
theorem nbyt82 : T.byts.elem 82 = false := rfl
theorem narr87 : lk? T.arrs 87 = none := rfl
theorem nsls87 : lk? T.sls 87 = none := rfl
theorem nstr87 : T.strs.elem 87 = false := rfl
theorem nbyt87 : T.byts.elem 87 = false := rfl
theorem narr91 : lk? T.arrs 91 = none := rfl
theorem nsls91 : lk? T.sls 91 = none := rfl
theorem nstr91 : T.strs.elem 91 = false := rfl
theorem nbyt91 : T.byts.elem 91 = false := rfl
theorem narr92 : lk? T.arrs 92 = none := rfl
theorem nint92 : lk? T.ints 92 = none := rfl
theorem nsls92 : lk? T.sls 92 = none := rfl
theorem nstr92 : T.strs.elem 92 = false := rfl
theorem nbyt92 : T.byts.elem 92 = false := rfl
theorem narr97 : lk? T.arrs 97 = none := rfl
theorem nint97 : lk? T.ints 97 = none := rfl
theorem nsls97 : lk? T.sls 97 = none := rfl
theorem nstr97 : T.strs.elem 97 = false := rfl
theorem nbyt97 : T.byts.elem 97 = false := rfl
theorem narr100 : lk? T.arrs 100 = none := rfl
theorem nsls100 : lk? T.sls 100 = none := rfl
theorem nstr100 : T.strs.elem 100 = false := rfl
theorem nbyt100 : T.byts.elem 100 = false := rfl
theorem narr108 : lk? T.arrs 108 = none := rfl
theorem nsls108 : lk? T.sls 108 = none := rfl
theorem nstr108 : T.strs.elem 108 = false := rfl
theorem nbyt108 : T.byts.elem 108 = false := rfl
theorem narr112 : lk? T.arrs 112 = none := rfl
theorem nint112 : lk? T.ints 112 = none := rfl
theorem nsls112 : lk? T.sls 112 = none := rfl
theorem nstr112 : T.strs.elem 112 = false := rfl
theorem nbyt112 : T.byts.elem 112 = false := rfl
theorem narr116 : lk? T.arrs 116 = none := rfl
theorem nint116 : lk? T.ints 116 = none := rfl
theorem nsls116 : lk? T.sls 116 = none := rfl
theorem nstr116 : T.strs.elem 116 = false := rfl
theorem nbyt116 : T.byts.elem 116 = false := rfl
theorem narr117 : lk? T.arrs 117 = none := rfl
theorem nint117 : lk? T.ints 117 = none := rfl
theorem nsls117 : lk? T.sls 117 = none := rfl
theorem nstr117 : T.strs.elem 117 = false := rfl
theorem nbyt117 : T.byts.elem 117 = false := rfl
theorem mixed : Try.prog.follows .mixedOrders = true := by kernel_rfl
attribute [push_cast] pks25 pks28 pks112 pks116 keys65 zeros3 zeros4 zeros5 zeros9 zeros22 zeros23 zeros25
attribute [push_cast] zeros27 zeros28 zeros29 zeros32 zeros34 zeros35 zeros36 zeros39 zeros45 zeros47 zeros48 zeros50
attribute [push_cast] zeros54 zeros55 zeros57 zeros58 zeros60 zeros62 zeros63 zeros65 zeros68 zeros69 zeros73 zeros75
attribute [push_cast] zeros76 zeros79 zeros82 zeros87 zeros91 zeros100 zeros108 zeros112 zeros116 fszs39 fszs50 fszs57
attribute [push_cast] fszs60 fszs65 eqs39 eqs50 sls22 sls23 sls27 sls32 sls34 sls35 sls45 sls48
attribute [push_cast] szs3 szs4 szs5 szs9 szs22 szs23 szs25 szs27 szs28 szs29 szs32 szs34
attribute [push_cast] szs35 szs36 szs39 szs45 szs47 szs48 szs50 szs54 szs55 szs57 szs58 szs60
attribute [push_cast] szs62 szs63 szs65 szs68 szs69 szs73 szs75 szs76 szs79 szs82 szs87 szs91
attribute [push_cast] szs100 szs108 szs112 szs116 fld39_0 fld39_1 fld39_2 fld50_0 fld50_1 fld50_2 fld50_3 fld50_4
attribute [push_cast] fld57_0 fld57_1 fld57_2 fld60_0 fld60_1 fld60_2 fld65_0 fld65_1 ints3 ints5 ints29 ints36
attribute [push_cast] ints87 ints91 ints100 ints108 strs9 ptrs25 ptrs28 ptrs112 ptrs116 bools4 nptr4 arrs63
attribute [push_cast] byts45 maps54 maps55 maps58 maps62 maps73 narr0 nint0 nsls0 nstr0 nbyt0 narr3
attribute [push_cast] nsls3 nstr3 nbyt3 narr4 nint4 nsls4 nstr4 nbyt4 narr5 nsls5 nstr5 nbyt5
attribute [push_cast] narr9 nint9 nsls9 nbyt9 narr22 nint22 nstr22 nbyt22 narr23 nint23 nstr23 nbyt23
attribute [push_cast] narr25 nint25 nsls25 nstr25 nbyt25 narr27 nint27 nstr27 nbyt27 narr28 nint28 nsls28
attribute [push_cast] nstr28 nbyt28 narr29 nsls29 nstr29 nbyt29 narr30 nint30 nsls30 nstr30 nbyt30 narr32
attribute [push_cast] nint32 nstr32 nbyt32 narr34 nint34 nstr34 nbyt34 narr35 nint35 nstr35 nbyt35 narr36
attribute [push_cast] nsls36 nstr36 nbyt36 narr39 nint39 nsls39 nstr39 nbyt39 narr45 nint45 nstr45 narr47
attribute [push_cast] nint47 nsls47 nstr47 nbyt47 narr48 nint48 nstr48 nbyt48 narr50 nint50 nsls50 nstr50
attribute [push_cast] nbyt50 narr54 nint54 nsls54 nstr54 nbyt54 narr55 nint55 nsls55 nstr55 nbyt55 narr57
attribute [push_cast] nint57 nsls57 nstr57 nbyt57 narr58 nint58 nsls58 nstr58 nbyt58 narr60 nint60 nsls60
attribute [push_cast] nstr60 nbyt60 narr62 nint62 nsls62 nstr62 nbyt62 nint63 nsls63 nstr63 nbyt63 narr65
attribute [push_cast] nint65 nsls65 nstr65 nbyt65 narr68 nint68 nsls68 nstr68 nbyt68 narr69 nint69 nsls69
attribute [push_cast] nstr69 nbyt69 narr73 nint73 nsls73 nstr73 nbyt73 narr75 nint75 nsls75 nstr75 nbyt75
attribute [push_cast] narr76 nint76 nsls76 nstr76 nbyt76 narr79 nint79 nsls79 nstr79 nbyt79 narr80 nint80
attribute [push_cast] nsls80 nstr80 nbyt80 narr82 nint82 nsls82 nstr82 nbyt82 narr87 nsls87 nstr87 nbyt87
attribute [push_cast] narr91 nsls91 nstr91 nbyt91 narr92 nint92 nsls92 nstr92 nbyt92 narr97 nint97 nsls97
attribute [push_cast] nstr97 nbyt97 narr100 nsls100 nstr100 nbyt100 narr108 nsls108 nstr108 nbyt108 narr112 nint112
attribute [push_cast] nsls112 nstr112 nbyt112 narr116 nint116 nsls116 nstr116 nbyt116 narr117 nint117 nsls117 nstr117
attribute [push_cast] nbyt117
end Go.Proofs.Ytnaiaacgcjikiaa.Hv
