/- The table of types that the walk over an abstract heap looks up. -/
import Derived.Test.YtheanmfdfoefoaaProg
import Derived.Test.YtheanmfdfoefoaaHvSet
namespace Go.Proofs.Ytheanmfdfoefoaa.Hv
open Go Go.RowKit
def T : Tbl where
  sls := [(22, ⟨84, 5, 56, .agg #[.int .i64 0, .int .i64 0, .int .i64 0, .string ⟨#[]⟩, .string ⟨#[]⟩]⟩), (25, ⟨56, 4, 48, .agg #[.int .i64 0, .int .i64 0, .string ⟨#[]⟩, .string ⟨#[]⟩]⟩), (30, ⟨51, 4, 48, .agg #[.int .i64 0, .int .i64 0, .string ⟨#[]⟩, .string ⟨#[]⟩]⟩), (60, ⟨86, 2, 16, .agg #[.int .i64 0, .int .i64 0]⟩), (64, ⟨120, 2, 16, .agg #[.int .i64 0, .int .i64 0]⟩), (65, ⟨93, 5, 56, .agg #[.int .i64 0, .int .i64 0, .int .i64 0, .string ⟨#[]⟩, .string ⟨#[]⟩]⟩), (74, ⟨3, 1, 8, .int .i64 0⟩), (88, ⟨62, 5, 72, .agg #[.int .i64 0, .int .i64 0, .int .i64 0, .slice none 0 0, .slice none 0 0]⟩), (103, ⟨5, 1, 1, .int .u8 0⟩), (160, ⟨30, 1, 24, .slice none 0 0⟩)]
  szs := [(2, none), (3, none), (4, none), (5, none), (9, none), (20, none), (22, none), (24, some 2), (25, none), (26, some 4), (28, some 7), (30, none), (31, some 4), (33, some 7), (35, some 2), (37, some 4), (38, none), (42, some 4), (51, some 4), (55, none), (56, some 4), (60, none), (62, some 5), (64, none), (65, none), (67, some 5), (74, none), (84, some 5), (86, some 2), (88, none), (93, some 5), (103, none), (120, some 2), (121, none), (122, some 2), (123, some 6), (124, none), (141, none), (142, some 3), (145, none), (147, some 2), (151, none), (153, some 2), (155, none), (160, none), (161, none), (163, none), (165, none), (167, none), (173, none), (189, none), (198, none), (205, none), (212, none)]
  flds := [(24, [(0, 0), (1, 1)]), (28, [(0, 0), (1, 1), (2, 2), (3, 3)]), (33, [(0, 0), (1, 1), (2, 2), (3, 3)]), (35, [(0, 0), (1, 1)]), (37, [(0, 0), (1, 1), (2, 2), (3, 3)]), (42, [(0, 0), (1, 1), (2, 2), (3, 3)]), (51, [(0, 0), (1, 1), (2, 2), (3, 3)]), (56, [(0, 0), (1, 1), (2, 2), (3, 3)]), (62, [(0, 0), (1, 1), (2, 2), (3, 3), (4, 4)]), (67, [(0, 0), (1, 1), (2, 2), (3, 3), (4, 4)]), (84, [(0, 0), (1, 1)]), (86, [(0, 0), (1, 1)]), (93, [(0, 0), (1, 1)]), (120, [(0, 0), (1, 1)]), (122, [(0, 0), (1, 1)]), (147, [(0, 0), (1, 1)]), (153, [(0, 0), (1, 1)])]
  ints := [(2, .i64), (3, .i64), (5, .u8), (38, .i64), (55, .u64), (173, .u64), (189, .i64), (198, .u32), (205, .u64)]
  strs := [9]
  zeros := [(2, .int .i64 0), (3, .int .i64 0), (4, .bool false), (5, .int .u8 0), (9, .string ⟨#[]⟩), (22, .slice none 0 0), (24, .agg #[.int .i64 0, .int .i64 0]), (25, .slice none 0 0), (26, .agg #[.slice none 0 0, .slice none 0 0, .slice none 0 0, .slice none 0 0]), (28, .agg #[.int .i64 0, .int .i64 0, .int .i64 0, .slice none 0 0, .slice none 0 0, .slice none 0 0, .slice none 0 0]), (30, .slice none 0 0), (31, .agg #[.slice none 0 0, .slice none 0 0, .slice none 0 0, .slice none 0 0]), (33, .agg #[.int .i64 0, .int .i64 0, .int .i64 0, .slice none 0 0, .slice none 0 0, .slice none 0 0, .slice none 0 0]), (35, .agg #[.int .i64 0, .int .i64 0]), (37, .agg #[.int .i64 0, .slice none 0 0, .slice none 0 0, .bool false]), (38, .int .i64 0), (42, .agg #[.int .i64 0, .slice none 0 0, .slice none 0 0, .bool false]), (51, .agg #[.int .i64 0, .int .i64 0, .string ⟨#[]⟩, .string ⟨#[]⟩]), (55, .int .u64 0), (56, .agg #[.int .i64 0, .int .i64 0, .string ⟨#[]⟩, .string ⟨#[]⟩]), (60, .slice none 0 0), (62, .agg #[.int .i64 0, .int .i64 0, .int .i64 0, .slice none 0 0, .slice none 0 0]), (64, .slice none 0 0), (65, .slice none 0 0), (67, .agg #[.int .i64 0, .int .i64 0, .int .i64 0, .slice none 0 0, .slice none 0 0]), (74, .slice none 0 0), (84, .agg #[.int .i64 0, .int .i64 0, .int .i64 0, .string ⟨#[]⟩, .string ⟨#[]⟩]), (86, .agg #[.int .i64 0, .int .i64 0]), (88, .slice none 0 0), (93, .agg #[.int .i64 0, .int .i64 0, .int .i64 0, .string ⟨#[]⟩, .string ⟨#[]⟩]), (103, .slice none 0 0), (120, .agg #[.int .i64 0, .int .i64 0]), (121, .pointer none), (122, .agg #[.pointer none, .int .i64 0]), (123, .agg #[.pointer none, .int .i64 0, .pointer none, .int .i64 0, .pointer none, .int .i64 0]), (124, .map none), (141, .nilFunc), (142, .agg #[.int .i64 0, .int .i64 0, .int .i64 0]), (145, .pointer none), (147, .agg #[.string ⟨#[]⟩, .bool false]), (151, .pointer none), (153, .agg #[.slice none 0 0, .bool false]), (155, .nilFunc), (160, .slice none 0 0), (161, .nilFunc), (163, .nilFunc), (165, .nilFunc), (167, .map none), (173, .int .u64 0), (189, .int .i64 0), (198, .int .u32 0), (205, .int .u64 0), (212, .pointer none)]
  fszs := [(24, [(0, 1), (1, 1)]), (26, [(0, 1), (1, 1), (2, 1), (3, 1)]), (28, [(0, 1), (1, 1), (2, 1), (3, 4)]), (31, [(0, 1), (1, 1), (2, 1), (3, 1)]), (33, [(0, 1), (1, 1), (2, 1), (3, 4)]), (35, [(0, 1), (1, 1)]), (37, [(0, 1), (1, 1), (2, 1), (3, 1)]), (42, [(0, 1), (1, 1), (2, 1), (3, 1)]), (51, [(0, 1), (1, 1), (2, 1), (3, 1)]), (56, [(0, 1), (1, 1), (2, 1), (3, 1)]), (62, [(0, 1), (1, 1), (2, 1), (3, 1), (4, 1)]), (67, [(0, 1), (1, 1), (2, 1), (3, 1), (4, 1)]), (84, [(0, 1), (1, 4)]), (86, [(0, 1), (1, 1)]), (93, [(0, 1), (1, 4)]), (120, [(0, 1), (1, 1)]), (122, [(0, 1), (1, 1)]), (123, [(0, 2), (2, 2), (4, 2)]), (142, [(0, 1), (1, 1), (2, 1)]), (147, [(0, 1), (1, 1)]), (153, [(0, 1), (1, 1)])]
  eqs := [(24, (eqFl [.int .i64, .int .i64])), (35, (eqFl [.int .i64, .int .i64])), (51, (eqFl [.int .i64, .int .i64, .str, .str])), (56, (eqFl [.int .i64, .int .i64, .str, .str])), (84, (eqFl [.int .i64, .int .i64, .int .i64, .str, .str])), (86, (eqFl [.int .i64, .int .i64])), (93, (eqFl [.int .i64, .int .i64, .int .i64, .str, .str])), (120, (eqFl [.int .i64, .int .i64])), (142, (eqFl [.int .i64, .int .i64, .int .i64])), (147, (eqFl [.str, .bool]))]
  ptrs := [121, 145, 151, 212]
  bools := [4]
  arrs := [(26, 4, 25, 1), (31, 4, 30, 1), (123, 3, 122, 2), (142, 3, 3, 1)]
  byts := [103]
  maps := [(124, ⟨120, 51, .agg #[.int .i64 0, .int .i64 0, .string ⟨#[]⟩, .string ⟨#[]⟩]⟩), (167, ⟨3, 4, .bool false⟩)]
  keys := [(120, [.int .i64, .int .i64])]
  pks := [121, 145, 151, 212]
set_option maxRecDepth 20000 in
theorem TOk : T.Ok Try.prog where
  sls := List.forall_mem_cons.2 ⟨ElemT.mk' (by kernel_rfl) (by kernel_rfl) rfl (by decide) (by decide), List.forall_mem_cons.2 ⟨ElemT.mk' (by kernel_rfl) (by kernel_rfl) rfl (by decide) (by decide), List.forall_mem_cons.2 ⟨ElemT.mk' (by kernel_rfl) (by kernel_rfl) rfl (by decide) (by decide), List.forall_mem_cons.2 ⟨ElemT.mk' (by kernel_rfl) (by kernel_rfl) rfl (by decide) (by decide), List.forall_mem_cons.2 ⟨ElemT.mk' (by kernel_rfl) (by kernel_rfl) rfl (by decide) (by decide), List.forall_mem_cons.2 ⟨ElemT.mk' (by kernel_rfl) (by kernel_rfl) rfl (by decide) (by decide), List.forall_mem_cons.2 ⟨ElemT.mk' (by kernel_rfl) (by kernel_rfl) rfl (by decide) (by decide), List.forall_mem_cons.2 ⟨ElemT.mk' (by kernel_rfl) (by kernel_rfl) rfl (by decide) (by decide), List.forall_mem_cons.2 ⟨ElemT.mk' (by kernel_rfl) (by kernel_rfl) rfl (by decide) (by decide), List.forall_mem_cons.2 ⟨ElemT.mk' (by kernel_rfl) (by kernel_rfl) rfl (by decide) (by decide), fun _ h => absurd h List.not_mem_nil⟩⟩⟩⟩⟩⟩⟩⟩⟩⟩
  szs := List.forall_mem_cons.2 ⟨⟨by kernel_rfl, by kernel_rfl⟩, List.forall_mem_cons.2 ⟨⟨by kernel_rfl, by kernel_rfl⟩, List.forall_mem_cons.2 ⟨⟨by kernel_rfl, by kernel_rfl⟩, List.forall_mem_cons.2 ⟨⟨by kernel_rfl, by kernel_rfl⟩, List.forall_mem_cons.2 ⟨⟨by kernel_rfl, by kernel_rfl⟩, List.forall_mem_cons.2 ⟨⟨by kernel_rfl, by kernel_rfl⟩, List.forall_mem_cons.2 ⟨⟨by kernel_rfl, by kernel_rfl⟩, List.forall_mem_cons.2 ⟨⟨by kernel_rfl, by kernel_rfl⟩, List.forall_mem_cons.2 ⟨⟨by kernel_rfl, by kernel_rfl⟩, List.forall_mem_cons.2 ⟨⟨by kernel_rfl, by kernel_rfl⟩, List.forall_mem_cons.2 ⟨⟨by kernel_rfl, by kernel_rfl⟩, List.forall_mem_cons.2 ⟨⟨by kernel_rfl, by kernel_rfl⟩, List.forall_mem_cons.2 ⟨⟨by kernel_rfl, by kernel_rfl⟩, List.forall_mem_cons.2 ⟨⟨by kernel_rfl, by kernel_rfl⟩, List.forall_mem_cons.2 ⟨⟨by kernel_rfl, by kernel_rfl⟩, List.forall_mem_cons.2 ⟨⟨by kernel_rfl, by kernel_rfl⟩, List.forall_mem_cons.2 ⟨⟨by kernel_rfl, by kernel_rfl⟩, List.forall_mem_cons.2 ⟨⟨by kernel_rfl, by kernel_rfl⟩, List.forall_mem_cons.2 ⟨⟨by kernel_rfl, by kernel_rfl⟩, List.forall_mem_cons.2 ⟨⟨by kernel_rfl, by kernel_rfl⟩, List.forall_mem_cons.2 ⟨⟨by kernel_rfl, by kernel_rfl⟩, List.forall_mem_cons.2 ⟨⟨by kernel_rfl, by kernel_rfl⟩, List.forall_mem_cons.2 ⟨⟨by kernel_rfl, by kernel_rfl⟩, List.forall_mem_cons.2 ⟨⟨by kernel_rfl, by kernel_rfl⟩, List.forall_mem_cons.2 ⟨⟨by kernel_rfl, by kernel_rfl⟩, List.forall_mem_cons.2 ⟨⟨by kernel_rfl, by kernel_rfl⟩, List.forall_mem_cons.2 ⟨⟨by kernel_rfl, by kernel_rfl⟩, List.forall_mem_cons.2 ⟨⟨by kernel_rfl, by kernel_rfl⟩, List.forall_mem_cons.2 ⟨⟨by kernel_rfl, by kernel_rfl⟩, List.forall_mem_cons.2 ⟨⟨by kernel_rfl, by kernel_rfl⟩, List.forall_mem_cons.2 ⟨⟨by kernel_rfl, by kernel_rfl⟩, List.forall_mem_cons.2 ⟨⟨by kernel_rfl, by kernel_rfl⟩, List.forall_mem_cons.2 ⟨⟨by kernel_rfl, by kernel_rfl⟩, List.forall_mem_cons.2 ⟨⟨by kernel_rfl, by kernel_rfl⟩, List.forall_mem_cons.2 ⟨⟨by kernel_rfl, by kernel_rfl⟩, List.forall_mem_cons.2 ⟨⟨by kernel_rfl, by kernel_rfl⟩, List.forall_mem_cons.2 ⟨⟨by kernel_rfl, by kernel_rfl⟩, List.forall_mem_cons.2 ⟨⟨by kernel_rfl, by kernel_rfl⟩, List.forall_mem_cons.2 ⟨⟨by kernel_rfl, by kernel_rfl⟩, List.forall_mem_cons.2 ⟨⟨by kernel_rfl, by kernel_rfl⟩, List.forall_mem_cons.2 ⟨⟨by kernel_rfl, by kernel_rfl⟩, List.forall_mem_cons.2 ⟨⟨by kernel_rfl, by kernel_rfl⟩, List.forall_mem_cons.2 ⟨⟨by kernel_rfl, by kernel_rfl⟩, List.forall_mem_cons.2 ⟨⟨by kernel_rfl, by kernel_rfl⟩, List.forall_mem_cons.2 ⟨⟨by kernel_rfl, by kernel_rfl⟩, List.forall_mem_cons.2 ⟨⟨by kernel_rfl, by kernel_rfl⟩, List.forall_mem_cons.2 ⟨⟨by kernel_rfl, by kernel_rfl⟩, List.forall_mem_cons.2 ⟨⟨by kernel_rfl, by kernel_rfl⟩, List.forall_mem_cons.2 ⟨⟨by kernel_rfl, by kernel_rfl⟩, List.forall_mem_cons.2 ⟨⟨by kernel_rfl, by kernel_rfl⟩, List.forall_mem_cons.2 ⟨⟨by kernel_rfl, by kernel_rfl⟩, List.forall_mem_cons.2 ⟨⟨by kernel_rfl, by kernel_rfl⟩, List.forall_mem_cons.2 ⟨⟨by kernel_rfl, by kernel_rfl⟩, List.forall_mem_cons.2 ⟨⟨by kernel_rfl, by kernel_rfl⟩, fun _ h => absurd h List.not_mem_nil⟩⟩⟩⟩⟩⟩⟩⟩⟩⟩⟩⟩⟩⟩⟩⟩⟩⟩⟩⟩⟩⟩⟩⟩⟩⟩⟩⟩⟩⟩⟩⟩⟩⟩⟩⟩⟩⟩⟩⟩⟩⟩⟩⟩⟩⟩⟩⟩⟩⟩⟩⟩⟩⟩
  flds := List.forall_mem_cons.2 ⟨(List.forall_mem_cons.2 ⟨by kernel_rfl, List.forall_mem_cons.2 ⟨by kernel_rfl, fun _ h => absurd h List.not_mem_nil⟩⟩), List.forall_mem_cons.2 ⟨(List.forall_mem_cons.2 ⟨by kernel_rfl, List.forall_mem_cons.2 ⟨by kernel_rfl, List.forall_mem_cons.2 ⟨by kernel_rfl, List.forall_mem_cons.2 ⟨by kernel_rfl, fun _ h => absurd h List.not_mem_nil⟩⟩⟩⟩), List.forall_mem_cons.2 ⟨(List.forall_mem_cons.2 ⟨by kernel_rfl, List.forall_mem_cons.2 ⟨by kernel_rfl, List.forall_mem_cons.2 ⟨by kernel_rfl, List.forall_mem_cons.2 ⟨by kernel_rfl, fun _ h => absurd h List.not_mem_nil⟩⟩⟩⟩), List.forall_mem_cons.2 ⟨(List.forall_mem_cons.2 ⟨by kernel_rfl, List.forall_mem_cons.2 ⟨by kernel_rfl, fun _ h => absurd h List.not_mem_nil⟩⟩), List.forall_mem_cons.2 ⟨(List.forall_mem_cons.2 ⟨by kernel_rfl, List.forall_mem_cons.2 ⟨by kernel_rfl, List.forall_mem_cons.2 ⟨by kernel_rfl, List.forall_mem_cons.2 ⟨by kernel_rfl, fun _ h => absurd h List.not_mem_nil⟩⟩⟩⟩), List.forall_mem_cons.2 ⟨(List.forall_mem_cons.2 ⟨by kernel_rfl, List.forall_mem_cons.2 ⟨by kernel_rfl, List.forall_mem_cons.2 ⟨by kernel_rfl, List.forall_mem_cons.2 ⟨by kernel_rfl, fun _ h => absurd h List.not_mem_nil⟩⟩⟩⟩), List.forall_mem_cons.2 ⟨(List.forall_mem_cons.2 ⟨by kernel_rfl, List.forall_mem_cons.2 ⟨by kernel_rfl, List.forall_mem_cons.2 ⟨by kernel_rfl, List.forall_mem_cons.2 ⟨by kernel_rfl, fun _ h => absurd h List.not_mem_nil⟩⟩⟩⟩), List.forall_mem_cons.2 ⟨(List.forall_mem_cons.2 ⟨by kernel_rfl, List.forall_mem_cons.2 ⟨by kernel_rfl, List.forall_mem_cons.2 ⟨by kernel_rfl, List.forall_mem_cons.2 ⟨by kernel_rfl, fun _ h => absurd h List.not_mem_nil⟩⟩⟩⟩), List.forall_mem_cons.2 ⟨(List.forall_mem_cons.2 ⟨by kernel_rfl, List.forall_mem_cons.2 ⟨by kernel_rfl, List.forall_mem_cons.2 ⟨by kernel_rfl, List.forall_mem_cons.2 ⟨by kernel_rfl, List.forall_mem_cons.2 ⟨by kernel_rfl, fun _ h => absurd h List.not_mem_nil⟩⟩⟩⟩⟩), List.forall_mem_cons.2 ⟨(List.forall_mem_cons.2 ⟨by kernel_rfl, List.forall_mem_cons.2 ⟨by kernel_rfl, List.forall_mem_cons.2 ⟨by kernel_rfl, List.forall_mem_cons.2 ⟨by kernel_rfl, List.forall_mem_cons.2 ⟨by kernel_rfl, fun _ h => absurd h List.not_mem_nil⟩⟩⟩⟩⟩), List.forall_mem_cons.2 ⟨(List.forall_mem_cons.2 ⟨by kernel_rfl, List.forall_mem_cons.2 ⟨by kernel_rfl, fun _ h => absurd h List.not_mem_nil⟩⟩), List.forall_mem_cons.2 ⟨(List.forall_mem_cons.2 ⟨by kernel_rfl, List.forall_mem_cons.2 ⟨by kernel_rfl, fun _ h => absurd h List.not_mem_nil⟩⟩), List.forall_mem_cons.2 ⟨(List.forall_mem_cons.2 ⟨by kernel_rfl, List.forall_mem_cons.2 ⟨by kernel_rfl, fun _ h => absurd h List.not_mem_nil⟩⟩), List.forall_mem_cons.2 ⟨(List.forall_mem_cons.2 ⟨by kernel_rfl, List.forall_mem_cons.2 ⟨by kernel_rfl, fun _ h => absurd h List.not_mem_nil⟩⟩), List.forall_mem_cons.2 ⟨(List.forall_mem_cons.2 ⟨by kernel_rfl, List.forall_mem_cons.2 ⟨by kernel_rfl, fun _ h => absurd h List.not_mem_nil⟩⟩), List.forall_mem_cons.2 ⟨(List.forall_mem_cons.2 ⟨by kernel_rfl, List.forall_mem_cons.2 ⟨by kernel_rfl, fun _ h => absurd h List.not_mem_nil⟩⟩), List.forall_mem_cons.2 ⟨(List.forall_mem_cons.2 ⟨by kernel_rfl, List.forall_mem_cons.2 ⟨by kernel_rfl, fun _ h => absurd h List.not_mem_nil⟩⟩), fun _ h => absurd h List.not_mem_nil⟩⟩⟩⟩⟩⟩⟩⟩⟩⟩⟩⟩⟩⟩⟩⟩⟩
  ints := List.forall_mem_cons.2 ⟨by kernel_rfl, List.forall_mem_cons.2 ⟨by kernel_rfl, List.forall_mem_cons.2 ⟨by kernel_rfl, List.forall_mem_cons.2 ⟨by kernel_rfl, List.forall_mem_cons.2 ⟨by kernel_rfl, List.forall_mem_cons.2 ⟨by kernel_rfl, List.forall_mem_cons.2 ⟨by kernel_rfl, List.forall_mem_cons.2 ⟨by kernel_rfl, List.forall_mem_cons.2 ⟨by kernel_rfl, fun _ h => absurd h List.not_mem_nil⟩⟩⟩⟩⟩⟩⟩⟩⟩
  strs := List.forall_mem_cons.2 ⟨by kernel_rfl, fun _ h => absurd h List.not_mem_nil⟩
  zeros := List.forall_mem_cons.2 ⟨by unfold okZero; kernel_rfl, List.forall_mem_cons.2 ⟨by unfold okZero; kernel_rfl, List.forall_mem_cons.2 ⟨by unfold okZero; kernel_rfl, List.forall_mem_cons.2 ⟨by unfold okZero; kernel_rfl, List.forall_mem_cons.2 ⟨by unfold okZero; kernel_rfl, List.forall_mem_cons.2 ⟨by unfold okZero; kernel_rfl, List.forall_mem_cons.2 ⟨by unfold okZero; kernel_rfl, List.forall_mem_cons.2 ⟨by unfold okZero; kernel_rfl, List.forall_mem_cons.2 ⟨by unfold okZero; kernel_rfl, List.forall_mem_cons.2 ⟨by unfold okZero; kernel_rfl, List.forall_mem_cons.2 ⟨by unfold okZero; kernel_rfl, List.forall_mem_cons.2 ⟨by unfold okZero; kernel_rfl, List.forall_mem_cons.2 ⟨by unfold okZero; kernel_rfl, List.forall_mem_cons.2 ⟨by unfold okZero; kernel_rfl, List.forall_mem_cons.2 ⟨by unfold okZero; kernel_rfl, List.forall_mem_cons.2 ⟨by unfold okZero; kernel_rfl, List.forall_mem_cons.2 ⟨by unfold okZero; kernel_rfl, List.forall_mem_cons.2 ⟨by unfold okZero; kernel_rfl, List.forall_mem_cons.2 ⟨by unfold okZero; kernel_rfl, List.forall_mem_cons.2 ⟨by unfold okZero; kernel_rfl, List.forall_mem_cons.2 ⟨by unfold okZero; kernel_rfl, List.forall_mem_cons.2 ⟨by unfold okZero; kernel_rfl, List.forall_mem_cons.2 ⟨by unfold okZero; kernel_rfl, List.forall_mem_cons.2 ⟨by unfold okZero; kernel_rfl, List.forall_mem_cons.2 ⟨by unfold okZero; kernel_rfl, List.forall_mem_cons.2 ⟨by unfold okZero; kernel_rfl, List.forall_mem_cons.2 ⟨by unfold okZero; kernel_rfl, List.forall_mem_cons.2 ⟨by unfold okZero; kernel_rfl, List.forall_mem_cons.2 ⟨by unfold okZero; kernel_rfl, List.forall_mem_cons.2 ⟨by unfold okZero; kernel_rfl, List.forall_mem_cons.2 ⟨by unfold okZero; kernel_rfl, List.forall_mem_cons.2 ⟨by unfold okZero; kernel_rfl, List.forall_mem_cons.2 ⟨by unfold okZero; kernel_rfl, List.forall_mem_cons.2 ⟨by unfold okZero; kernel_rfl, List.forall_mem_cons.2 ⟨by unfold okZero; kernel_rfl, List.forall_mem_cons.2 ⟨by unfold okZero; kernel_rfl, List.forall_mem_cons.2 ⟨by unfold okZero; kernel_rfl, List.forall_mem_cons.2 ⟨by unfold okZero; kernel_rfl, List.forall_mem_cons.2 ⟨by unfold okZero; kernel_rfl, List.forall_mem_cons.2 ⟨by unfold okZero; kernel_rfl, List.forall_mem_cons.2 ⟨by unfold okZero; kernel_rfl, List.forall_mem_cons.2 ⟨by unfold okZero; kernel_rfl, List.forall_mem_cons.2 ⟨by unfold okZero; kernel_rfl, List.forall_mem_cons.2 ⟨by unfold okZero; kernel_rfl, List.forall_mem_cons.2 ⟨by unfold okZero; kernel_rfl, List.forall_mem_cons.2 ⟨by unfold okZero; kernel_rfl, List.forall_mem_cons.2 ⟨by unfold okZero; kernel_rfl, List.forall_mem_cons.2 ⟨by unfold okZero; kernel_rfl, List.forall_mem_cons.2 ⟨by unfold okZero; kernel_rfl, List.forall_mem_cons.2 ⟨by unfold okZero; kernel_rfl, List.forall_mem_cons.2 ⟨by unfold okZero; kernel_rfl, List.forall_mem_cons.2 ⟨by unfold okZero; kernel_rfl, List.forall_mem_cons.2 ⟨by unfold okZero; kernel_rfl, fun _ h => absurd h List.not_mem_nil⟩⟩⟩⟩⟩⟩⟩⟩⟩⟩⟩⟩⟩⟩⟩⟩⟩⟩⟩⟩⟩⟩⟩⟩⟩⟩⟩⟩⟩⟩⟩⟩⟩⟩⟩⟩⟩⟩⟩⟩⟩⟩⟩⟩⟩⟩⟩⟩⟩⟩⟩⟩⟩
  fszs := List.forall_mem_cons.2 ⟨by unfold okFsz; kernel_rfl, List.forall_mem_cons.2 ⟨by unfold okFsz; kernel_rfl, List.forall_mem_cons.2 ⟨by unfold okFsz; kernel_rfl, List.forall_mem_cons.2 ⟨by unfold okFsz; kernel_rfl, List.forall_mem_cons.2 ⟨by unfold okFsz; kernel_rfl, List.forall_mem_cons.2 ⟨by unfold okFsz; kernel_rfl, List.forall_mem_cons.2 ⟨by unfold okFsz; kernel_rfl, List.forall_mem_cons.2 ⟨by unfold okFsz; kernel_rfl, List.forall_mem_cons.2 ⟨by unfold okFsz; kernel_rfl, List.forall_mem_cons.2 ⟨by unfold okFsz; kernel_rfl, List.forall_mem_cons.2 ⟨by unfold okFsz; kernel_rfl, List.forall_mem_cons.2 ⟨by unfold okFsz; kernel_rfl, List.forall_mem_cons.2 ⟨by unfold okFsz; kernel_rfl, List.forall_mem_cons.2 ⟨by unfold okFsz; kernel_rfl, List.forall_mem_cons.2 ⟨by unfold okFsz; kernel_rfl, List.forall_mem_cons.2 ⟨by unfold okFsz; kernel_rfl, List.forall_mem_cons.2 ⟨by unfold okFsz; kernel_rfl, List.forall_mem_cons.2 ⟨by unfold okFsz; kernel_rfl, List.forall_mem_cons.2 ⟨by unfold okFsz; kernel_rfl, List.forall_mem_cons.2 ⟨by unfold okFsz; kernel_rfl, List.forall_mem_cons.2 ⟨by unfold okFsz; kernel_rfl, fun _ h => absurd h List.not_mem_nil⟩⟩⟩⟩⟩⟩⟩⟩⟩⟩⟩⟩⟩⟩⟩⟩⟩⟩⟩⟩⟩
  eqs := List.forall_mem_cons.2 ⟨okEq_flat ⟨by kernel_rfl, by kernel_rfl⟩ (by kernel_rfl), List.forall_mem_cons.2 ⟨okEq_flat ⟨by kernel_rfl, by kernel_rfl⟩ (by kernel_rfl), List.forall_mem_cons.2 ⟨okEq_flat ⟨by kernel_rfl, by kernel_rfl⟩ (by kernel_rfl), List.forall_mem_cons.2 ⟨okEq_flat ⟨by kernel_rfl, by kernel_rfl⟩ (by kernel_rfl), List.forall_mem_cons.2 ⟨okEq_flat ⟨by kernel_rfl, by kernel_rfl⟩ (by kernel_rfl), List.forall_mem_cons.2 ⟨okEq_flat ⟨by kernel_rfl, by kernel_rfl⟩ (by kernel_rfl), List.forall_mem_cons.2 ⟨okEq_flat ⟨by kernel_rfl, by kernel_rfl⟩ (by kernel_rfl), List.forall_mem_cons.2 ⟨okEq_flat ⟨by kernel_rfl, by kernel_rfl⟩ (by kernel_rfl), List.forall_mem_cons.2 ⟨okEq_flat ⟨by kernel_rfl, by kernel_rfl⟩ (by kernel_rfl), List.forall_mem_cons.2 ⟨okEq_flat ⟨by kernel_rfl, by kernel_rfl⟩ (by kernel_rfl), fun _ h => absurd h List.not_mem_nil⟩⟩⟩⟩⟩⟩⟩⟩⟩⟩
  ptrs := List.forall_mem_cons.2 ⟨by unfold okPtr; kernel_rfl, List.forall_mem_cons.2 ⟨by unfold okPtr; kernel_rfl, List.forall_mem_cons.2 ⟨by unfold okPtr; kernel_rfl, List.forall_mem_cons.2 ⟨by unfold okPtr; kernel_rfl, fun _ h => absurd h List.not_mem_nil⟩⟩⟩⟩
  bools := List.forall_mem_cons.2 ⟨by kernel_rfl, fun _ h => absurd h List.not_mem_nil⟩
  arrs := List.forall_mem_cons.2 ⟨⟨by kernel_rfl, by kernel_rfl⟩, List.forall_mem_cons.2 ⟨⟨by kernel_rfl, by kernel_rfl⟩, List.forall_mem_cons.2 ⟨⟨by kernel_rfl, by kernel_rfl⟩, List.forall_mem_cons.2 ⟨⟨by kernel_rfl, by kernel_rfl⟩, fun _ h => absurd h List.not_mem_nil⟩⟩⟩⟩
  byts := List.forall_mem_cons.2 ⟨⟨5, by kernel_rfl, by kernel_rfl, by kernel_rfl⟩, fun _ h => absurd h List.not_mem_nil⟩
  maps := List.forall_mem_cons.2 ⟨⟨by kernel_rfl, by kernel_rfl⟩, List.forall_mem_cons.2 ⟨⟨by kernel_rfl, by kernel_rfl⟩, fun _ h => absurd h List.not_mem_nil⟩⟩
  keys := List.forall_mem_cons.2 ⟨⟨by kernel_rfl, by kernel_rfl⟩, fun _ h => absurd h List.not_mem_nil⟩
  pks := List.forall_mem_cons.2 ⟨by kernel_rfl, List.forall_mem_cons.2 ⟨by kernel_rfl, List.forall_mem_cons.2 ⟨by kernel_rfl, List.forall_mem_cons.2 ⟨by kernel_rfl, fun _ h => absurd h List.not_mem_nil⟩⟩⟩⟩
theorem pks121 : T.pks.elem 121 = true := rfl
theorem pks145 : T.pks.elem 145 = true := rfl
theorem pks151 : T.pks.elem 151 = true := rfl
theorem pks212 : T.pks.elem 212 = true := rfl
theorem keys120 : lk? T.keys 120 = some [.int .i64, .int .i64] := rfl
theorem zeros2 : lk? T.zeros 2 = some (.int .i64 0) := rfl
theorem zeros3 : lk? T.zeros 3 = some (.int .i64 0) := rfl
theorem zeros4 : lk? T.zeros 4 = some (.bool false) := rfl
theorem zeros5 : lk? T.zeros 5 = some (.int .u8 0) := rfl
theorem zeros9 : lk? T.zeros 9 = some (.string ⟨#[]⟩) := rfl
theorem zeros22 : lk? T.zeros 22 = some (.slice none 0 0) := rfl
theorem zeros24 : lk? T.zeros 24 = some (.agg #[.int .i64 0, .int .i64 0]) := rfl
theorem zeros25 : lk? T.zeros 25 = some (.slice none 0 0) := rfl
theorem zeros26 : lk? T.zeros 26 = some (.agg #[.slice none 0 0, .slice none 0 0, .slice none 0 0, .slice none 0 0]) := rfl
theorem zeros28 : lk? T.zeros 28 = some (.agg #[.int .i64 0, .int .i64 0, .int .i64 0, .slice none 0 0, .slice none 0 0, .slice none 0 0, .slice none 0 0]) := rfl
theorem zeros30 : lk? T.zeros 30 = some (.slice none 0 0) := rfl
theorem zeros31 : lk? T.zeros 31 = some (.agg #[.slice none 0 0, .slice none 0 0, .slice none 0 0, .slice none 0 0]) := rfl
theorem zeros33 : lk? T.zeros 33 = some (.agg #[.int .i64 0, .int .i64 0, .int .i64 0, .slice none 0 0, .slice none 0 0, .slice none 0 0, .slice none 0 0]) := rfl
theorem zeros35 : lk? T.zeros 35 = some (.agg #[.int .i64 0, .int .i64 0]) := rfl
theorem zeros37 : lk? T.zeros 37 = some (.agg #[.int .i64 0, .slice none 0 0, .slice none 0 0, .bool false]) := rfl
theorem zeros38 : lk? T.zeros 38 = some (.int .i64 0) := rfl
theorem zeros42 : lk? T.zeros 42 = some (.agg #[.int .i64 0, .slice none 0 0, .slice none 0 0, .bool false]) := rfl
theorem zeros51 : lk? T.zeros 51 = some (.agg #[.int .i64 0, .int .i64 0, .string ⟨#[]⟩, .string ⟨#[]⟩]) := rfl
theorem zeros55 : lk? T.zeros 55 = some (.int .u64 0) := rfl
theorem zeros56 : lk? T.zeros 56 = some (.agg #[.int .i64 0, .int .i64 0, .string ⟨#[]⟩, .string ⟨#[]⟩]) := rfl
theorem zeros60 : lk? T.zeros 60 = some (.slice none 0 0) := rfl
theorem zeros62 : lk? T.zeros 62 = some (.agg #[.int .i64 0, .int .i64 0, .int .i64 0, .slice none 0 0, .slice none 0 0]) := rfl
theorem zeros64 : lk? T.zeros 64 = some (.slice none 0 0) := rfl
theorem zeros65 : lk? T.zeros 65 = some (.slice none 0 0) := rfl
theorem zeros67 : lk? T.zeros 67 = some (.agg #[.int .i64 0, .int .i64 0, .int .i64 0, .slice none 0 0, .slice none 0 0]) := rfl
theorem zeros74 : lk? T.zeros 74 = some (.slice none 0 0) := rfl
theorem zeros84 : lk? T.zeros 84 = some (.agg #[.int .i64 0, .int .i64 0, .int .i64 0, .string ⟨#[]⟩, .string ⟨#[]⟩]) := rfl
theorem zeros86 : lk? T.zeros 86 = some (.agg #[.int .i64 0, .int .i64 0]) := rfl
theorem zeros88 : lk? T.zeros 88 = some (.slice none 0 0) := rfl
theorem zeros93 : lk? T.zeros 93 = some (.agg #[.int .i64 0, .int .i64 0, .int .i64 0, .string ⟨#[]⟩, .string ⟨#[]⟩]) := rfl
theorem zeros103 : lk? T.zeros 103 = some (.slice none 0 0) := rfl
theorem zeros120 : lk? T.zeros 120 = some (.agg #[.int .i64 0, .int .i64 0]) := rfl
theorem zeros121 : lk? T.zeros 121 = some (.pointer none) := rfl
theorem zeros122 : lk? T.zeros 122 = some (.agg #[.pointer none, .int .i64 0]) := rfl
theorem zeros123 : lk? T.zeros 123 = some (.agg #[.pointer none, .int .i64 0, .pointer none, .int .i64 0, .pointer none, .int .i64 0]) := rfl
theorem zeros124 : lk? T.zeros 124 = some (.map none) := rfl
theorem zeros141 : lk? T.zeros 141 = some (.nilFunc) := rfl
theorem zeros142 : lk? T.zeros 142 = some (.agg #[.int .i64 0, .int .i64 0, .int .i64 0]) := rfl
theorem zeros145 : lk? T.zeros 145 = some (.pointer none) := rfl
theorem zeros147 : lk? T.zeros 147 = some (.agg #[.string ⟨#[]⟩, .bool false]) := rfl
theorem zeros151 : lk? T.zeros 151 = some (.pointer none) := rfl
theorem zeros153 : lk? T.zeros 153 = some (.agg #[.slice none 0 0, .bool false]) := rfl
theorem zeros155 : lk? T.zeros 155 = some (.nilFunc) := rfl
theorem zeros160 : lk? T.zeros 160 = some (.slice none 0 0) := rfl
theorem zeros161 : lk? T.zeros 161 = some (.nilFunc) := rfl
theorem zeros163 : lk? T.zeros 163 = some (.nilFunc) := rfl
theorem zeros165 : lk? T.zeros 165 = some (.nilFunc) := rfl
theorem zeros167 : lk? T.zeros 167 = some (.map none) := rfl
theorem zeros173 : lk? T.zeros 173 = some (.int .u64 0) := rfl
theorem zeros189 : lk? T.zeros 189 = some (.int .i64 0) := rfl
theorem zeros198 : lk? T.zeros 198 = some (.int .u32 0) := rfl
theorem zeros205 : lk? T.zeros 205 = some (.int .u64 0) := rfl
theorem zeros212 : lk? T.zeros 212 = some (.pointer none) := rfl
theorem fszs24 : lk? T.fszs 24 = some [(0, 1), (1, 1)] := rfl
theorem fszs26 : lk? T.fszs 26 = some [(0, 1), (1, 1), (2, 1), (3, 1)] := rfl
theorem fszs28 : lk? T.fszs 28 = some [(0, 1), (1, 1), (2, 1), (3, 4)] := rfl
theorem fszs31 : lk? T.fszs 31 = some [(0, 1), (1, 1), (2, 1), (3, 1)] := rfl
theorem fszs33 : lk? T.fszs 33 = some [(0, 1), (1, 1), (2, 1), (3, 4)] := rfl
theorem fszs35 : lk? T.fszs 35 = some [(0, 1), (1, 1)] := rfl
theorem fszs37 : lk? T.fszs 37 = some [(0, 1), (1, 1), (2, 1), (3, 1)] := rfl
theorem fszs42 : lk? T.fszs 42 = some [(0, 1), (1, 1), (2, 1), (3, 1)] := rfl
theorem fszs51 : lk? T.fszs 51 = some [(0, 1), (1, 1), (2, 1), (3, 1)] := rfl
theorem fszs56 : lk? T.fszs 56 = some [(0, 1), (1, 1), (2, 1), (3, 1)] := rfl
theorem fszs62 : lk? T.fszs 62 = some [(0, 1), (1, 1), (2, 1), (3, 1), (4, 1)] := rfl
theorem fszs67 : lk? T.fszs 67 = some [(0, 1), (1, 1), (2, 1), (3, 1), (4, 1)] := rfl
theorem fszs84 : lk? T.fszs 84 = some [(0, 1), (1, 4)] := rfl
theorem fszs86 : lk? T.fszs 86 = some [(0, 1), (1, 1)] := rfl
theorem fszs93 : lk? T.fszs 93 = some [(0, 1), (1, 4)] := rfl
theorem fszs120 : lk? T.fszs 120 = some [(0, 1), (1, 1)] := rfl
theorem fszs122 : lk? T.fszs 122 = some [(0, 1), (1, 1)] := rfl
theorem fszs123 : lk? T.fszs 123 = some [(0, 2), (2, 2), (4, 2)] := rfl
theorem fszs142 : lk? T.fszs 142 = some [(0, 1), (1, 1), (2, 1)] := rfl
theorem fszs147 : lk? T.fszs 147 = some [(0, 1), (1, 1)] := rfl
theorem fszs153 : lk? T.fszs 153 = some [(0, 1), (1, 1)] := rfl
theorem eqs24 : lk? T.eqs 24 = some (eqFl [.int .i64, .int .i64]) := rfl
theorem eqs35 : lk? T.eqs 35 = some (eqFl [.int .i64, .int .i64]) := rfl
theorem eqs51 : lk? T.eqs 51 = some (eqFl [.int .i64, .int .i64, .str, .str]) := rfl
theorem eqs56 : lk? T.eqs 56 = some (eqFl [.int .i64, .int .i64, .str, .str]) := rfl
theorem eqs84 : lk? T.eqs 84 = some (eqFl [.int .i64, .int .i64, .int .i64, .str, .str]) := rfl
theorem eqs86 : lk? T.eqs 86 = some (eqFl [.int .i64, .int .i64]) := rfl
theorem eqs93 : lk? T.eqs 93 = some (eqFl [.int .i64, .int .i64, .int .i64, .str, .str]) := rfl
theorem eqs120 : lk? T.eqs 120 = some (eqFl [.int .i64, .int .i64]) := rfl
theorem eqs142 : lk? T.eqs 142 = some (eqFl [.int .i64, .int .i64, .int .i64]) := rfl
theorem eqs147 : lk? T.eqs 147 = some (eqFl [.str, .bool]) := rfl
theorem sls22 : lk? T.sls 22 = some ⟨84, 5, 56, .agg #[.int .i64 0, .int .i64 0, .int .i64 0, .string ⟨#[]⟩, .string ⟨#[]⟩]⟩ := rfl
theorem sls25 : lk? T.sls 25 = some ⟨56, 4, 48, .agg #[.int .i64 0, .int .i64 0, .string ⟨#[]⟩, .string ⟨#[]⟩]⟩ := rfl
theorem sls30 : lk? T.sls 30 = some ⟨51, 4, 48, .agg #[.int .i64 0, .int .i64 0, .string ⟨#[]⟩, .string ⟨#[]⟩]⟩ := rfl
theorem sls60 : lk? T.sls 60 = some ⟨86, 2, 16, .agg #[.int .i64 0, .int .i64 0]⟩ := rfl
theorem sls64 : lk? T.sls 64 = some ⟨120, 2, 16, .agg #[.int .i64 0, .int .i64 0]⟩ := rfl
theorem sls65 : lk? T.sls 65 = some ⟨93, 5, 56, .agg #[.int .i64 0, .int .i64 0, .int .i64 0, .string ⟨#[]⟩, .string ⟨#[]⟩]⟩ := rfl
theorem sls74 : lk? T.sls 74 = some ⟨3, 1, 8, .int .i64 0⟩ := rfl
theorem sls88 : lk? T.sls 88 = some ⟨62, 5, 72, .agg #[.int .i64 0, .int .i64 0, .int .i64 0, .slice none 0 0, .slice none 0 0]⟩ := rfl
theorem sls103 : lk? T.sls 103 = some ⟨5, 1, 1, .int .u8 0⟩ := rfl
theorem sls160 : lk? T.sls 160 = some ⟨30, 1, 24, .slice none 0 0⟩ := rfl
theorem szs2 : lk? T.szs 2 = some none := rfl
theorem szs3 : lk? T.szs 3 = some none := rfl
theorem szs4 : lk? T.szs 4 = some none := rfl
theorem szs5 : lk? T.szs 5 = some none := rfl
theorem szs9 : lk? T.szs 9 = some none := rfl
theorem szs20 : lk? T.szs 20 = some none := rfl
theorem szs22 : lk? T.szs 22 = some none := rfl
theorem szs24 : lk? T.szs 24 = some (some 2) := rfl
theorem szs25 : lk? T.szs 25 = some none := rfl
theorem szs26 : lk? T.szs 26 = some (some 4) := rfl
theorem szs28 : lk? T.szs 28 = some (some 7) := rfl
theorem szs30 : lk? T.szs 30 = some none := rfl
theorem szs31 : lk? T.szs 31 = some (some 4) := rfl
theorem szs33 : lk? T.szs 33 = some (some 7) := rfl
theorem szs35 : lk? T.szs 35 = some (some 2) := rfl
theorem szs37 : lk? T.szs 37 = some (some 4) := rfl
theorem szs38 : lk? T.szs 38 = some none := rfl
theorem szs42 : lk? T.szs 42 = some (some 4) := rfl
theorem szs51 : lk? T.szs 51 = some (some 4) := rfl
theorem szs55 : lk? T.szs 55 = some none := rfl
theorem szs56 : lk? T.szs 56 = some (some 4) := rfl
theorem szs60 : lk? T.szs 60 = some none := rfl
theorem szs62 : lk? T.szs 62 = some (some 5) := rfl
theorem szs64 : lk? T.szs 64 = some none := rfl
theorem szs65 : lk? T.szs 65 = some none := rfl
theorem szs67 : lk? T.szs 67 = some (some 5) := rfl
theorem szs74 : lk? T.szs 74 = some none := rfl
theorem szs84 : lk? T.szs 84 = some (some 5) := rfl
theorem szs86 : lk? T.szs 86 = some (some 2) := rfl
theorem szs88 : lk? T.szs 88 = some none := rfl
theorem szs93 : lk? T.szs 93 = some (some 5) := rfl
theorem szs103 : lk? T.szs 103 = some none := rfl
theorem szs120 : lk? T.szs 120 = some (some 2) := rfl
theorem szs121 : lk? T.szs 121 = some none := rfl
theorem szs122 : lk? T.szs 122 = some (some 2) := rfl
theorem szs123 : lk? T.szs 123 = some (some 6) := rfl
theorem szs124 : lk? T.szs 124 = some none := rfl
theorem szs141 : lk? T.szs 141 = some none := rfl
theorem szs142 : lk? T.szs 142 = some (some 3) := rfl
theorem szs145 : lk? T.szs 145 = some none := rfl
theorem szs147 : lk? T.szs 147 = some (some 2) := rfl
theorem szs151 : lk? T.szs 151 = some none := rfl
theorem szs153 : lk? T.szs 153 = some (some 2) := rfl
theorem szs155 : lk? T.szs 155 = some none := rfl
theorem szs160 : lk? T.szs 160 = some none := rfl
theorem szs161 : lk? T.szs 161 = some none := rfl
theorem szs163 : lk? T.szs 163 = some none := rfl
theorem szs165 : lk? T.szs 165 = some none := rfl
theorem szs167 : lk? T.szs 167 = some none := rfl
theorem szs173 : lk? T.szs 173 = some none := rfl
theorem szs189 : lk? T.szs 189 = some none := rfl
theorem szs198 : lk? T.szs 198 = some none := rfl
theorem szs205 : lk? T.szs 205 = some none := rfl
theorem szs212 : lk? T.szs 212 = some none := rfl
theorem fld24_0 : T.fld 24 0 = some 0 := rfl
theorem fld24_1 : T.fld 24 1 = some 1 := rfl
theorem fld28_0 : T.fld 28 0 = some 0 := rfl
theorem fld28_1 : T.fld 28 1 = some 1 := rfl
theorem fld28_2 : T.fld 28 2 = some 2 := rfl
theorem fld28_3 : T.fld 28 3 = some 3 := rfl
theorem fld33_0 : T.fld 33 0 = some 0 := rfl
theorem fld33_1 : T.fld 33 1 = some 1 := rfl
theorem fld33_2 : T.fld 33 2 = some 2 := rfl
theorem fld33_3 : T.fld 33 3 = some 3 := rfl
theorem fld35_0 : T.fld 35 0 = some 0 := rfl
theorem fld35_1 : T.fld 35 1 = some 1 := rfl
theorem fld37_0 : T.fld 37 0 = some 0 := rfl
theorem fld37_1 : T.fld 37 1 = some 1 := rfl
theorem fld37_2 : T.fld 37 2 = some 2 := rfl
theorem fld37_3 : T.fld 37 3 = some 3 := rfl
theorem fld42_0 : T.fld 42 0 = some 0 := rfl
theorem fld42_1 : T.fld 42 1 = some 1 := rfl
theorem fld42_2 : T.fld 42 2 = some 2 := rfl
theorem fld42_3 : T.fld 42 3 = some 3 := rfl
theorem fld51_0 : T.fld 51 0 = some 0 := rfl
theorem fld51_1 : T.fld 51 1 = some 1 := rfl
theorem fld51_2 : T.fld 51 2 = some 2 := rfl
theorem fld51_3 : T.fld 51 3 = some 3 := rfl
theorem fld56_0 : T.fld 56 0 = some 0 := rfl
theorem fld56_1 : T.fld 56 1 = some 1 := rfl
theorem fld56_2 : T.fld 56 2 = some 2 := rfl
theorem fld56_3 : T.fld 56 3 = some 3 := rfl
theorem fld62_0 : T.fld 62 0 = some 0 := rfl
theorem fld62_1 : T.fld 62 1 = some 1 := rfl
theorem fld62_2 : T.fld 62 2 = some 2 := rfl
theorem fld62_3 : T.fld 62 3 = some 3 := rfl
theorem fld62_4 : T.fld 62 4 = some 4 := rfl
theorem fld67_0 : T.fld 67 0 = some 0 := rfl
theorem fld67_1 : T.fld 67 1 = some 1 := rfl
theorem fld67_2 : T.fld 67 2 = some 2 := rfl
theorem fld67_3 : T.fld 67 3 = some 3 := rfl
theorem fld67_4 : T.fld 67 4 = some 4 := rfl
theorem fld84_0 : T.fld 84 0 = some 0 := rfl
theorem fld84_1 : T.fld 84 1 = some 1 := rfl
theorem fld86_0 : T.fld 86 0 = some 0 := rfl
theorem fld86_1 : T.fld 86 1 = some 1 := rfl
theorem fld93_0 : T.fld 93 0 = some 0 := rfl
theorem fld93_1 : T.fld 93 1 = some 1 := rfl
theorem fld120_0 : T.fld 120 0 = some 0 := rfl
theorem fld120_1 : T.fld 120 1 = some 1 := rfl
theorem fld122_0 : T.fld 122 0 = some 0 := rfl
theorem fld122_1 : T.fld 122 1 = some 1 := rfl
theorem fld147_0 : T.fld 147 0 = some 0 := rfl
theorem fld147_1 : T.fld 147 1 = some 1 := rfl
theorem fld153_0 : T.fld 153 0 = some 0 := rfl
theorem fld153_1 : T.fld 153 1 = some 1 := rfl
theorem ints2 : lk? T.ints 2 = some .i64 := rfl
theorem ints3 : lk? T.ints 3 = some .i64 := rfl
theorem ints5 : lk? T.ints 5 = some .u8 := rfl
theorem ints38 : lk? T.ints 38 = some .i64 := rfl
theorem ints55 : lk? T.ints 55 = some .u64 := rfl
theorem ints173 : lk? T.ints 173 = some .u64 := rfl
theorem ints189 : lk? T.ints 189 = some .i64 := rfl
theorem ints198 : lk? T.ints 198 = some .u32 := rfl
theorem ints205 : lk? T.ints 205 = some .u64 := rfl
theorem strs9 : T.strs.elem 9 = true := rfl
theorem ptrs121 : T.ptrs.elem 121 = true := rfl
theorem ptrs145 : T.ptrs.elem 145 = true := rfl
theorem ptrs151 : T.ptrs.elem 151 = true := rfl
theorem ptrs212 : T.ptrs.elem 212 = true := rfl
theorem bools4 : T.bools.elem 4 = true := rfl
theorem nptr4 : T.ptrs.elem 4 = false := rfl
theorem arrs26 : lk? T.arrs 26 = some (4, 25, 1) := rfl
theorem arrs31 : lk? T.arrs 31 = some (4, 30, 1) := rfl
theorem arrs123 : lk? T.arrs 123 = some (3, 122, 2) := rfl
theorem arrs142 : lk? T.arrs 142 = some (3, 3, 1) := rfl
theorem byts103 : T.byts.elem 103 = true := rfl
theorem maps124 : lk? T.maps 124 = some ⟨120, 51, .agg #[.int .i64 0, .int .i64 0, .string ⟨#[]⟩, .string ⟨#[]⟩]⟩ := rfl
theorem maps167 : lk? T.maps 167 = some ⟨3, 4, .bool false⟩ := rfl
theorem narr0 : lk? T.arrs 0 = none := rfl
theorem nint0 : lk? T.ints 0 = none := rfl
theorem nsls0 : lk? T.sls 0 = none := rfl
theorem nstr0 : T.strs.elem 0 = false := rfl
theorem nbyt0 : T.byts.elem 0 = false := rfl
theorem narr2 : lk? T.arrs 2 = none := rfl
theorem nsls2 : lk? T.sls 2 = none := rfl
theorem nstr2 : T.strs.elem 2 = false := rfl
theorem nbyt2 : T.byts.elem 2 = false := rfl
theorem narr3 : lk? T.arrs 3 = none := rfl
theorem nsls3 : lk? T.sls 3 = none := rfl
theorem nstr3 : T.strs.elem 3 = false := rfl
theorem nbyt3 : T.byts.elem 3 = false := rfl
theorem narr4 : lk? T.arrs 4 = none := rfl
theorem nint4 : lk? T.ints 4 = none := rfl
theorem nsls4 : lk? T.sls 4 = none := rfl
theorem nstr4 : T.strs.elem 4 = false := rfl
theorem nbyt4 : T.byts.elem 4 = false := rfl
theorem narr5 : lk? T.arrs 5 = none := rfl
theorem nsls5 : lk? T.sls 5 = none := rfl
theorem nstr5 : T.strs.elem 5 = false := rfl
theorem nbyt5 : T.byts.elem 5 = false := rfl
theorem narr9 : lk? T.arrs 9 = none := rfl
theorem nint9 : lk? T.ints 9 = none := rfl
theorem nsls9 : lk? T.sls 9 = none := rfl
theorem nbyt9 : T.byts.elem 9 = false := rfl
theorem narr20 : lk? T.arrs 20 = none := rfl
theorem nint20 : lk? T.ints 20 = none := rfl
theorem nsls20 : lk? T.sls 20 = none := rfl
theorem nstr20 : T.strs.elem 20 = false := rfl
theorem nbyt20 : T.byts.elem 20 = false := rfl
theorem narr22 : lk? T.arrs 22 = none := rfl
theorem nint22 : lk? T.ints 22 = none := rfl
theorem nstr22 : T.strs.elem 22 = false := rfl
theorem nbyt22 : T.byts.elem 22 = false := rfl
theorem narr24 : lk? T.arrs 24 = none := rfl
theorem nint24 : lk? T.ints 24 = none := rfl
theorem nsls24 : lk? T.sls 24 = none := rfl
theorem nstr24 : T.strs.elem 24 = false := rfl
theorem nbyt24 : T.byts.elem 24 = false := rfl
theorem narr25 : lk? T.arrs 25 = none := rfl
theorem nint25 : lk? T.ints 25 = none := rfl
theorem nstr25 : T.strs.elem 25 = false := rfl
theorem nbyt25 : T.byts.elem 25 = false := rfl
theorem nint26 : lk? T.ints 26 = none := rfl
theorem nsls26 : lk? T.sls 26 = none := rfl
theorem nstr26 : T.strs.elem 26 = false := rfl
theorem nbyt26 : T.byts.elem 26 = false := rfl
theorem narr28 : lk? T.arrs 28 = none := rfl
theorem nint28 : lk? T.ints 28 = none := rfl
theorem nsls28 : lk? T.sls 28 = none := rfl
theorem nstr28 : T.strs.elem 28 = false := rfl
theorem nbyt28 : T.byts.elem 28 = false := rfl
theorem narr30 : lk? T.arrs 30 = none := rfl
theorem nint30 : lk? T.ints 30 = none := rfl
theorem nstr30 : T.strs.elem 30 = false := rfl
theorem nbyt30 : T.byts.elem 30 = false := rfl
theorem nint31 : lk? T.ints 31 = none := rfl
theorem nsls31 : lk? T.sls 31 = none := rfl
theorem nstr31 : T.strs.elem 31 = false := rfl
theorem nbyt31 : T.byts.elem 31 = false := rfl
theorem narr33 : lk? T.arrs 33 = none := rfl
theorem nint33 : lk? T.ints 33 = none := rfl
theorem nsls33 : lk? T.sls 33 = none := rfl
theorem nstr33 : T.strs.elem 33 = false := rfl
theorem nbyt33 : T.byts.elem 33 = false := rfl
theorem narr35 : lk? T.arrs 35 = none := rfl
theorem nint35 : lk? T.ints 35 = none := rfl
theorem nsls35 : lk? T.sls 35 = none := rfl
theorem nstr35 : T.strs.elem 35 = false := rfl
theorem nbyt35 : T.byts.elem 35 = false := rfl
theorem narr37 : lk? T.arrs 37 = none := rfl
theorem nint37 : lk? T.ints 37 = none := rfl
theorem nsls37 : lk? T.sls 37 = none := rfl
theorem nstr37 : T.strs.elem 37 = false := rfl
theorem nbyt37 : T.byts.elem 37 = false := rfl
theorem narr38 : lk? T.arrs 38 = none := rfl
theorem nsls38 : lk? T.sls 38 = none := rfl
theorem nstr38 : T.strs.elem 38 = false := rfl
theorem nbyt38 : T.byts.elem 38 = false := rfl
theorem narr39 : lk? T.arrs 39 = none := rfl
theorem nint39 : lk? T.ints 39 = none := rfl
theorem nsls39 : lk? T.sls 39 = none := rfl
theorem nstr39 : T.strs.elem 39 = false := rfl
theorem nbyt39 : T.byts.elem 39 = false := rfl
theorem narr42 : lk? T.arrs 42 = none := rfl
theorem nint42 : lk? T.ints 42 = none := rfl
theorem nsls42 : lk? T.sls 42 = none := rfl
theorem nstr42 : T.strs.elem 42 = false := rfl
theorem nbyt42 : T.byts.elem 42 = false := rfl
theorem narr43 : lk? T.arrs 43 = none := rfl
theorem nint43 : lk? T.ints 43 = none := rfl
theorem nsls43 : lk? T.sls 43 = none := rfl
theorem nstr43 : T.strs.elem 43 = false := rfl
theorem nbyt43 : T.byts.elem 43 = false := rfl
theorem narr45 : lk? T.arrs 45 = none := rfl
theorem nint45 : lk? T.ints 45 = none := rfl
theorem nsls45 : lk? T.sls 45 = none := rfl
theorem nstr45 : T.strs.elem 45 = false := rfl
theorem nbyt45 : T.byts.elem 45 = false := rfl
theorem narr51 : lk? T.arrs 51 = none := rfl
theorem nint51 : lk? T.ints 51 = none := rfl
theorem nsls51 : lk? T.sls 51 = none := rfl
theorem nstr51 : T.strs.elem 51 = false := rfl
theorem nbyt51 : T.byts.elem 51 = false := rfl
theorem narr55 : lk? T.arrs 55 = none := rfl
theorem nsls55 : lk? T.sls 55 = none := rfl
theorem nstr55 : T.strs.elem 55 = false := rfl
theorem nbyt55 : T.byts.elem 55 = false := rfl
theorem narr56 : lk? T.arrs 56 = none := rfl
theorem nint56 : lk? T.ints 56 = none := rfl
theorem nsls56 : lk? T.sls 56 = none := rfl
theorem nstr56 : T.strs.elem 56 = false := rfl
theorem nbyt56 : T.byts.elem 56 = false := rfl
theorem narr60 : lk? T.arrs 60 = none := rfl
theorem nint60 : lk? T.ints 60 = none := rfl
theorem nstr60 : T.strs.elem 60 = false := rfl
theorem nbyt60 : T.byts.elem 60 = false := rfl
theorem narr62 : lk? T.arrs 62 = none := rfl
theorem nint62 : lk? T.ints 62 = none := rfl
theorem nsls62 : lk? T.sls 62 = none := rfl
theorem nstr62 : T.strs.elem 62 = false := rfl
theorem nbyt62 : T.byts.elem 62 = false := rfl
theorem narr64 : lk? T.arrs 64 = none := rfl
theorem nint64 : lk? T.ints 64 = none := rfl
theorem nstr64 : T.strs.elem 64 = false := rfl
theorem nbyt64 : T.byts.elem 64 = false := rfl
theorem narr65 : lk? T.arrs 65 = none := rfl
theorem nint65 : lk? T.ints 65 = none := rfl
theorem nstr65 : T.strs.elem 65 = false := rfl
theorem nbyt65 : T.byts.elem 65 = false := rfl
theorem narr67 : lk? T.arrs 67 = none := rfl
theorem nint67 : lk? T.ints 67 = none := rfl
theorem nsls67 : lk? T.sls 67 = none := rfl
theorem nstr67 : T.strs.elem 67 = false := rfl
theorem nbyt67 : T.byts.elem 67 = false := rfl
theorem narr72 : lk? T.arrs 72 = none := rfl
theorem nint72 : lk? T.ints 72 = none := rfl
theorem nsls72 : lk? T.sls 72 = none := rfl
theorem nstr72 : T.strs.elem 72 = false := rfl
theorem nbyt72 : T.byts.elem 72 = false := rfl
theorem narr74 : lk? T.arrs 74 = none := rfl
theorem nint74 : lk? T.ints 74 = none := rfl
theorem nstr74 : T.strs.elem 74 = false := rfl
theorem nbyt74 : T.byts.elem 74 = false := rfl
theorem narr84 : lk? T.arrs 84 = none := rfl
theorem nint84 : lk? T.ints 84 = none := rfl
theorem nsls84 : lk? T.sls 84 = none := rfl
theorem nstr84 : T.strs.elem 84 = false := rfl
theorem nbyt84 : T.byts.elem 84 = false := rfl
theorem narr86 : lk? T.arrs 86 = none := rfl
theorem nint86 : lk? T.ints 86 = none := rfl
theorem nsls86 : lk? T.sls 86 = none := rfl
theorem nstr86 : T.strs.elem 86 = false := rfl
theorem nbyt86 : T.byts.elem 86 = false := rfl
theorem narr88 : lk? T.arrs 88 = none := rfl
theorem nint88 : lk? T.ints 88 = none := rfl
theorem nstr88 : T.strs.elem 88 = false := rfl
theorem nbyt88 : T.byts.elem 88 = false := rfl
theorem narr93 : lk? T.arrs 93 = none := rfl
theorem nint93 : lk? T.ints 93 = none := rfl
theorem nsls93 : lk? T.sls 93 = none := rfl
theorem nstr93 : T.strs.elem 93 = false := rfl
theorem nbyt93 : T.byts.elem 93 = false := rfl
theorem narr96 : lk? T.arrs 96 = none := rfl
theorem nint96 : lk? T.ints 96 = none := rfl
theorem nsls96 : lk? T.sls 96 = none := rfl
theorem nstr96 : T.strs.elem 96 = false := rfl
theorem nbyt96 : T.byts.elem 96 = false := rfl
theorem narr103 : lk? T.arrs 103 = none := rfl
theorem nint103 : lk? T.ints 103 = none := rfl
theorem nstr103 : T.strs.elem 103 = false := rfl
theorem narr104 : lk? T.arrs 104 = none := rfl
theorem nint104 : lk? T.ints 104 = none := rfl
theorem nsls104 : lk? T.sls 104 = none := rfl
theorem nstr104 : T.strs.elem 104 = false := rfl
theorem nbyt104 : T.byts.elem 104 = false := rfl
theorem narr106 : lk? T.arrs 106 = none := rfl
theorem nint106 : lk? T.ints 106 = none := rfl
theorem nsls106 : lk? T.sls 106 = none := rfl
theorem nstr106 : T.strs.elem 106 = false := rfl
theorem nbyt106 : T.byts.elem 106 = false := rfl
theorem narr108 : lk? T.arrs 108 = none := rfl
theorem nint108 : lk? T.ints 108 = none := rfl
theorem nsls108 : lk? T.sls 108 = none := rfl
theorem nstr108 : T.strs.elem 108 = false := rfl
theorem nbyt108 : T.byts.elem 108 = false := rfl
theorem narr110 : lk? T.arrs 110 = none := rfl
theorem nint110 : lk? T.ints 110 = none := rfl
theorem nsls110 : lk? T.sls 110 = none := rfl
theorem nstr110 : T.strs.elem 110 = false := rfl
theorem nbyt110 : T.byts.elem 110 = false := rfl
theorem narr120 : lk? T.arrs 120 = none := rfl
theorem nint120 : lk? T.ints 120 = none := rfl
theorem nsls120 : lk? T.sls 120 = none := rfl
theorem nstr120 : T.strs.elem 120 = false := rfl
theorem nbyt120 : T.byts.elem 120 = false := rfl
theorem narr121 : lk? T.arrs 121 = none := rfl
theorem nint121 : lk? T.ints 121 = none := rfl
theorem nsls121 : lk? T.sls 121 = none := rfl
theorem nstr121 : T.strs.elem 121 = false := rfl
theorem nbyt121 : T.byts.elem 121 = false := rfl
theorem narr122 : lk? T.arrs 122 = none := rfl
theorem nint122 : lk? T.ints 122 = none := rfl
theorem nsls122 : lk? T.sls 122 = none := rfl
theorem nstr122 : T.strs.elem 122 = false := rfl
theorem nbyt122 : T.byts.elem 122 = false := rfl
theorem nint123 : lk? T.ints 123 = none := rfl
theorem nsls123 : lk? T.sls 123 = none := rfl
theorem nstr123 : T.strs.elem 123 = false := rfl
theorem nbyt123 : T.byts.elem 123 = false := rfl
theorem narr124 : lk? T.arrs 124 = none := rfl
theorem nint124 : lk? T.ints 124 = none := rfl
theorem nsls124 : lk? T.sls 124 = none := rfl
theorem nstr124 : T.strs.elem 124 = false := rfl
theorem nbyt124 : T.byts.elem 124 = false := rfl
theorem narr131 : lk? T.arrs 131 = none := rfl
theorem nint131 : lk? T.ints 131 = none := rfl
theorem nsls131 : lk? T.sls 131 = none := rfl
theorem nstr131 : T.strs.elem 131 = false := rfl
theorem nbyt131 : T.byts.elem 131 = false := rfl
theorem narr141 : lk? T.arrs 141 = none := rfl
theorem nint141 : lk? T.ints 141 = none := rfl
theorem nsls141 : lk? T.sls 141 = none := rfl
theorem nstr141 : T.strs.elem 141 = false := rfl
theorem nbyt141 : T.byts.elem 141 = false := rfl
theorem nint142 : lk? T.ints 142 = none := rfl
theorem nsls142 : lk? T.sls 142 = none := rfl
theorem nstr142 : T.strs.elem 142 = false := rfl
theorem nbyt142 : T.byts.elem 142 = false := rfl
theorem narr145 : lk? T.arrs 145 = none := rfl
theorem nint145 : lk? T.ints 145 = none := rfl
theorem nsls145 : lk? T.sls 145 = none := rfl
theorem nstr145 : T.strs.elem 145 = false := rfl
theorem nbyt145 : T.byts.elem 145 = false := rfl
theorem narr147 : lk? T.arrs 147 = none := rfl
theorem nint147 : lk? T.ints 147 = none := rfl
theorem nsls147 : lk? T.sls 147 = none := rfl
theorem nstr147 : T.strs.elem 147 = false := rfl
theorem nbyt147 : T.byts.elem 147 = false := rfl
theorem narr151 : lk? T.arrs 151 = none := rfl
theorem nint151 : lk? T.ints 151 = none := rfl
theorem nsls151 : lk? T.sls 151 = none := rfl
theorem nstr151 : T.strs.elem 151 = false := rfl
theorem nbyt151 : T.byts.elem 151 = false := rfl
theorem narr153 : lk? T.arrs 153 = none := rfl
theorem nint153 : lk? T.ints 153 = none := rfl
theorem nsls153 : lk? T.sls 153 = none := rfl
theorem nstr153 : T.strs.elem 153 = false := rfl
theorem nbyt153 : T.byts.elem 153 = false := rfl
theorem narr155 : lk? T.arrs 155 = none := rfl
theorem nint155 : lk? T.ints 155 = none := rfl
theorem nsls155 : lk? T.sls 155 = none := rfl
theorem nstr155 : T.strs.elem 155 = false := rfl
theorem nbyt155 : T.byts.elem 155 = false := rfl
theorem narr156 : lk? T.arrs 156 = none := rfl
theorem nint156 : lk? T.ints 156 = none := rfl
theorem nsls156 : lk? T.sls 156 = none := rfl
theorem nstr156 : T.strs.elem 156 = false := rfl
theorem nbyt156 : T.byts.elem 156 = false := rfl
theorem narr160 : lk? T.arrs 160 = none := rfl
theorem nint160 : lk? T.ints 160 = none := rfl
theorem nstr160 : T.strs.elem 160 = false := rfl
theorem nbyt160 : T.byts.elem 160 = false := rfl
theorem narr161 : lk? T.arrs 161 = none := rfl
theorem nint161 : lk? T.ints 161 = none := rfl
theorem nsls161 : lk? T.sls 161 = none := rfl
theorem nstr161 : T.strs.elem 161 = false := rfl
theorem nbyt161 : T.byts.elem 161 = false := rfl
theorem narr163 : lk? T.arrs 163 = none := rfl
theorem nint163 : lk? T.ints 163 = none := rfl
theorem nsls163 : lk? T.sls 163 = none := rfl
theorem nstr163 : T.strs.elem 163 = false := rfl
theorem nbyt163 : T.byts.elem 163 = false := rfl
theorem narr165 : lk? T.arrs 165 = none := rfl
theorem nint165 : lk? T.ints 165 = none := rfl
theorem nsls165 : lk? T.sls 165 = none := rfl
theorem nstr165 : T.strs.elem 165 = false := rfl
theorem nbyt165 : T.byts.elem 165 = false := rfl
theorem narr166 : lk? T.arrs 166 = none := rfl
theorem nint166 : lk? T.ints 166 = none := rfl
theorem nsls166 : lk? T.sls 166 = none := rfl
theorem nstr166 : T.strs.elem 166 = false := rfl
theorem nbyt166 : T.byts.elem 166 = false := rfl
theorem narr167 : lk? T.arrs 167 = none := rfl
theorem nint167 : lk? T.ints 167 = none := rfl
theorem nsls167 : lk? T.sls 167 = none := rfl
theorem nstr167 : T.strs.elem 167 = false := rfl
theorem nbyt167 : T.byts.elem 167 = false := rfl
theorem narr173 : lk? T.arrs 173 = none := rfl
theorem nsls173 : lk? T.sls 173 = none := rfl
theorem nstr173 : T.strs.elem 173 = false := rfl
theorem nbyt173 : T.byts.elem 173 = false := rfl
theorem narr175 : lk? T.arrs 175 = none := rfl
theorem nint175 : lk? T.ints 175 = none := rfl
theorem nsls175 : lk? T.sls 175 = none := rfl
theorem nstr175 : T.strs.elem 175 = false := rfl
theorem nbyt175 : T.byts.elem 175 = false := rfl
theorem narr177 : lk? T.arrs 177 = none := rfl
theorem nint177 : lk? T.ints 177 = none := rfl
theorem nsls177 : lk? T.sls 177 = none := rfl
theorem nstr177 : T.strs.elem 177 = false := rfl
theorem nbyt177 : T.byts.elem 177 = false := rfl
theorem narr179 : lk? T.arrs 179 = none := rfl
theorem nint179 : lk? T.ints 179 = none := rfl
theorem nsls179 : lk? T.sls 179 = none := rfl
theorem nstr179 : T.strs.elem 179 = false := rfl
theorem nbyt179 : T.byts.elem 179 = false := rfl
theorem narr189 : lk? T.arrs 189 = none := rfl
theorem nsls189 : lk? T.sls 189 = none := rfl
theorem nstr189 : T.strs.elem 189 = false := rfl
theorem nbyt189 : T.byts.elem 189 = false := rfl
theorem narr190 : lk? T.arrs 190 = none := rfl
theorem nint190 : lk? T.ints 190 = none := rfl
theorem nsls190 : lk? T.sls 190 = none := rfl
theorem nstr190 : T.strs.elem 190 = false := rfl
theorem nbyt190 : T.byts.elem 190 = false := rfl
theorem narr195 : lk? T.arrs 195 = none := rfl
theorem nint195 : lk? T.ints 195 = none := rfl
theorem nsls195 : lk? T.sls 195 = none := rfl
theorem nstr195 : T.strs.elem 195 = false := rfl
theorem nbyt195 : T.byts.elem 195 = false := rfl
theorem narr198 : lk? T.arrs 198 = none := rfl
theorem nsls198 : lk? T.sls 198 = none := rfl
theorem nstr198 : T.strs.elem 198 = false := rfl
theorem nbyt198 : T.byts.elem 198 = false := rfl
theorem narr205 : lk? T.arrs 205 = none := rfl
theorem nsls205 : lk? T.sls 205 = none := rfl
theorem nstr205 : T.strs.elem 205 = false := rfl
theorem nbyt205 : T.byts.elem 205 = false := rfl
theorem narr212 : lk? T.arrs 212 = none := rfl
theorem nint212 : lk? T.ints 212 = none := rfl
theorem nsls212 : lk? T.sls 212 = none := rfl
theorem nstr212 : T.strs.elem 212 = false := rfl
theorem nbyt212 : T.byts.elem 212 = false := rfl
theorem narr213 : lk? T.arrs 213 = none := rfl
theorem nint213 : lk? T.ints 213 = none := rfl
theorem nsls213 : lk? T.sls 213 = none := rfl
theorem nstr213 : T.strs.elem 213 = false := rfl
theorem nbyt213 : T.byts.elem 213 = false := rfl
theorem mixed : Try.prog.follows .mixedOrders = true := by kernel_rfl
attribute [push_cast] pks121 pks145 pks151 pks212 keys120 zeros2 zeros3 zeros4 zeros5 zeros9 zeros22 zeros24
attribute [push_cast] zeros25 zeros26 zeros28 zeros30 zeros31 zeros33 zeros35 zeros37 zeros38 zeros42 zeros51 zeros55
attribute [push_cast] zeros56 zeros60 zeros62 zeros64 zeros65 zeros67 zeros74 zeros84 zeros86 zeros88 zeros93 zeros103
attribute [push_cast] zeros120 zeros121 zeros122 zeros123 zeros124 zeros141 zeros142 zeros145 zeros147 zeros151 zeros153 zeros155
attribute [push_cast] zeros160 zeros161 zeros163 zeros165 zeros167 zeros173 zeros189 zeros198 zeros205 zeros212 fszs24 fszs26
attribute [push_cast] fszs28 fszs31 fszs33 fszs35 fszs37 fszs42 fszs51 fszs56 fszs62 fszs67 fszs84 fszs86
attribute [push_cast] fszs93 fszs120 fszs122 fszs123 fszs142 fszs147 fszs153 eqs24 eqs35 eqs51 eqs56 eqs84
attribute [push_cast] eqs86 eqs93 eqs120 eqs142 eqs147 sls22 sls25 sls30 sls60 sls64 sls65 sls74
attribute [push_cast] sls88 sls103 sls160 szs2 szs3 szs4 szs5 szs9 szs20 szs22 szs24 szs25
attribute [push_cast] szs26 szs28 szs30 szs31 szs33 szs35 szs37 szs38 szs42 szs51 szs55 szs56
attribute [push_cast] szs60 szs62 szs64 szs65 szs67 szs74 szs84 szs86 szs88 szs93 szs103 szs120
attribute [push_cast] szs121 szs122 szs123 szs124 szs141 szs142 szs145 szs147 szs151 szs153 szs155 szs160
attribute [push_cast] szs161 szs163 szs165 szs167 szs173 szs189 szs198 szs205 szs212 fld24_0 fld24_1 fld28_0
attribute [push_cast] fld28_1 fld28_2 fld28_3 fld33_0 fld33_1 fld33_2 fld33_3 fld35_0 fld35_1 fld37_0 fld37_1 fld37_2
attribute [push_cast] fld37_3 fld42_0 fld42_1 fld42_2 fld42_3 fld51_0 fld51_1 fld51_2 fld51_3 fld56_0 fld56_1 fld56_2
attribute [push_cast] fld56_3 fld62_0 fld62_1 fld62_2 fld62_3 fld62_4 fld67_0 fld67_1 fld67_2 fld67_3 fld67_4 fld84_0
attribute [push_cast] fld84_1 fld86_0 fld86_1 fld93_0 fld93_1 fld120_0 fld120_1 fld122_0 fld122_1 fld147_0 fld147_1 fld153_0
attribute [push_cast] fld153_1 ints2 ints3 ints5 ints38 ints55 ints173 ints189 ints198 ints205 strs9 ptrs121
attribute [push_cast] ptrs145 ptrs151 ptrs212 bools4 nptr4 arrs26 arrs31 arrs123 arrs142 byts103 maps124 maps167
attribute [push_cast] narr0 nint0 nsls0 nstr0 nbyt0 narr2 nsls2 nstr2 nbyt2 narr3 nsls3 nstr3
attribute [push_cast] nbyt3 narr4 nint4 nsls4 nstr4 nbyt4 narr5 nsls5 nstr5 nbyt5 narr9 nint9
attribute [push_cast] nsls9 nbyt9 narr20 nint20 nsls20 nstr20 nbyt20 narr22 nint22 nstr22 nbyt22 narr24
attribute [push_cast] nint24 nsls24 nstr24 nbyt24 narr25 nint25 nstr25 nbyt25 nint26 nsls26 nstr26 nbyt26
attribute [push_cast] narr28 nint28 nsls28 nstr28 nbyt28 narr30 nint30 nstr30 nbyt30 nint31 nsls31 nstr31
attribute [push_cast] nbyt31 narr33 nint33 nsls33 nstr33 nbyt33 narr35 nint35 nsls35 nstr35 nbyt35 narr37
attribute [push_cast] nint37 nsls37 nstr37 nbyt37 narr38 nsls38 nstr38 nbyt38 narr39 nint39 nsls39 nstr39
attribute [push_cast] nbyt39 narr42 nint42 nsls42 nstr42 nbyt42 narr43 nint43 nsls43 nstr43 nbyt43 narr45
attribute [push_cast] nint45 nsls45 nstr45 nbyt45 narr51 nint51 nsls51 nstr51 nbyt51 narr55 nsls55 nstr55
attribute [push_cast] nbyt55 narr56 nint56 nsls56 nstr56 nbyt56 narr60 nint60 nstr60 nbyt60 narr62 nint62
attribute [push_cast] nsls62 nstr62 nbyt62 narr64 nint64 nstr64 nbyt64 narr65 nint65 nstr65 nbyt65 narr67
attribute [push_cast] nint67 nsls67 nstr67 nbyt67 narr72 nint72 nsls72 nstr72 nbyt72 narr74 nint74 nstr74
attribute [push_cast] nbyt74 narr84 nint84 nsls84 nstr84 nbyt84 narr86 nint86 nsls86 nstr86 nbyt86 narr88
attribute [push_cast] nint88 nstr88 nbyt88 narr93 nint93 nsls93 nstr93 nbyt93 narr96 nint96 nsls96 nstr96
attribute [push_cast] nbyt96 narr103 nint103 nstr103 narr104 nint104 nsls104 nstr104 nbyt104 narr106 nint106 nsls106
attribute [push_cast] nstr106 nbyt106 narr108 nint108 nsls108 nstr108 nbyt108 narr110 nint110 nsls110 nstr110 nbyt110
attribute [push_cast] narr120 nint120 nsls120 nstr120 nbyt120 narr121 nint121 nsls121 nstr121 nbyt121 narr122 nint122
attribute [push_cast] nsls122 nstr122 nbyt122 nint123 nsls123 nstr123 nbyt123 narr124 nint124 nsls124 nstr124 nbyt124
attribute [push_cast] narr131 nint131 nsls131 nstr131 nbyt131 narr141 nint141 nsls141 nstr141 nbyt141 nint142 nsls142
attribute [push_cast] nstr142 nbyt142 narr145 nint145 nsls145 nstr145 nbyt145 narr147 nint147 nsls147 nstr147 nbyt147
attribute [push_cast] narr151 nint151 nsls151 nstr151 nbyt151 narr153 nint153 nsls153 nstr153 nbyt153 narr155 nint155
attribute [push_cast] nsls155 nstr155 nbyt155 narr156 nint156 nsls156 nstr156 nbyt156 narr160 nint160 nstr160 nbyt160
attribute [push_cast] narr161 nint161 nsls161 nstr161 nbyt161 narr163 nint163 nsls163 nstr163 nbyt163 narr165 nint165
attribute [push_cast] nsls165 nstr165 nbyt165 narr166 nint166 nsls166 nstr166 nbyt166 narr167 nint167 nsls167 nstr167
attribute [push_cast] nbyt167 narr173 nsls173 nstr173 nbyt173 narr175 nint175 nsls175 nstr175 nbyt175 narr177 nint177
attribute [push_cast] nsls177 nstr177 nbyt177 narr179 nint179 nsls179 nstr179 nbyt179 narr189 nsls189 nstr189 nbyt189
attribute [push_cast] narr190 nint190 nsls190 nstr190 nbyt190 narr195 nint195 nsls195 nstr195 nbyt195 narr198 nsls198
attribute [push_cast] nstr198 nbyt198 narr205 nsls205 nstr205 nbyt205 narr212 nint212 nsls212 nstr212 nbyt212 narr213
attribute [push_cast] nint213 nsls213 nstr213 nbyt213
end Go.Proofs.Ytheanmfdfoefoaa.Hv
