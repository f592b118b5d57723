/- The table of types that the walk over an abstract heap looks up. -/
import Derived.Test.YticplbnnmajcpaaProg
import Derived.Test.YticplbnnmajcpaaHvSet
namespace Go.Proofs.Yticplbnnmajcpaa.Hv
open Go Go.RowKit
def T : Tbl where
  sls := [(22, ⟨35, 4, 48, .agg #[.string ⟨#[]⟩, .int .i64 0, .int .i64 0, .string ⟨#[]⟩]⟩), (23, ⟨3, 1, 8, .int .i64 0⟩), (29, ⟨22, 1, 24, .slice none 0 0⟩), (36, ⟨5, 1, 1, .int .u8 0⟩), (39, ⟨95, 5, 56, .agg #[.int .i64 0, .int .i64 0, .int .i64 0, .string ⟨#[]⟩, .string ⟨#[]⟩]⟩), (40, ⟨91, 2, 16, .agg #[.int .i64 0, .int .i64 0]⟩), (43, ⟨92, 2, 16, .agg #[.int .i64 0, .int .i64 0]⟩), (44, ⟨63, 5, 56, .agg #[.int .i64 0, .int .i64 0, .int .i64 0, .string ⟨#[]⟩, .string ⟨#[]⟩]⟩), (48, ⟨61, 4, 48, .agg #[.int .i64 0, .int .i64 0, .string ⟨#[]⟩, .string ⟨#[]⟩]⟩), (54, ⟨93, 4, 48, .agg #[.int .i64 0, .int .i64 0, .string ⟨#[]⟩, .string ⟨#[]⟩]⟩), (68, ⟨74, 3, 40, .agg #[.int .i64 0, .string ⟨#[]⟩, .string ⟨#[]⟩]⟩), (111, ⟨9, 1, 16, .string ⟨#[]⟩⟩)]
  szs := [(2, none), (3, none), (4, none), (5, none), (9, none), (22, none), (23, none), (26, none), (29, none), (33, some 3), (35, some 4), (36, none), (39, none), (40, none), (42, some 5), (43, none), (44, none), (46, some 5), (48, none), (49, some 4), (51, some 7), (54, none), (55, some 4), (57, some 7), (61, some 4), (63, some 5), (68, none), (74, some 3), (91, some 2), (92, some 2), (93, some 4), (95, some 5), (96, none), (97, some 2), (98, some 6), (99, none), (108, none), (110, none), (111, none), (113, none), (114, none), (117, none), (118, none), (120, some 2), (126, none), (130, none), (131, some 3), (133, none), (135, none), (137, none), (139, none), (142, none), (144, none), (147, none), (154, none), (162, none), (178, none), (196, none)]
  flds := [(33, [(0, 0), (1, 1), (2, 2)]), (35, [(0, 0), (1, 3)]), (42, [(0, 0), (1, 1), (2, 2), (3, 3), (4, 4)]), (46, [(0, 0), (1, 1), (2, 2), (3, 3), (4, 4)]), (51, [(0, 0), (1, 1), (2, 2), (3, 3)]), (57, [(0, 0), (1, 1), (2, 2), (3, 3)]), (61, [(0, 0), (1, 1), (2, 2), (3, 3)]), (63, [(0, 0), (1, 1)]), (74, [(0, 0), (1, 1), (2, 2)]), (91, [(0, 0), (1, 1)]), (92, [(0, 0), (1, 1)]), (93, [(0, 0), (1, 1), (2, 2), (3, 3)]), (95, [(0, 0), (1, 1)]), (97, [(0, 0), (1, 1)]), (120, [(0, 0), (1, 1)])]
  ints := [(2, .i64), (3, .i64), (5, .u8), (26, .i64), (108, .u64), (126, .u64), (154, .i64), (162, .u32), (178, .u64)]
  strs := [9]
  zeros := [(2, .int .i64 0), (3, .int .i64 0), (4, .bool false), (5, .int .u8 0), (9, .string ⟨#[]⟩), (22, .slice none 0 0), (23, .slice none 0 0), (26, .int .i64 0), (29, .slice none 0 0), (33, .agg #[.string ⟨#[]⟩, .int .i64 0, .int .i64 0]), (35, .agg #[.string ⟨#[]⟩, .int .i64 0, .int .i64 0, .string ⟨#[]⟩]), (36, .slice none 0 0), (39, .slice none 0 0), (40, .slice none 0 0), (42, .agg #[.int .i64 0, .int .i64 0, .int .i64 0, .slice none 0 0, .slice none 0 0]), (43, .slice none 0 0), (44, .slice none 0 0), (46, .agg #[.int .i64 0, .int .i64 0, .int .i64 0, .slice none 0 0, .slice none 0 0]), (48, .slice none 0 0), (49, .agg #[.slice none 0 0, .slice none 0 0, .slice none 0 0, .slice none 0 0]), (51, .agg #[.int .i64 0, .int .i64 0, .int .i64 0, .slice none 0 0, .slice none 0 0, .slice none 0 0, .slice none 0 0]), (54, .slice none 0 0), (55, .agg #[.slice none 0 0, .slice none 0 0, .slice none 0 0, .slice none 0 0]), (57, .agg #[.int .i64 0, .int .i64 0, .int .i64 0, .slice none 0 0, .slice none 0 0, .slice none 0 0, .slice none 0 0]), (61, .agg #[.int .i64 0, .int .i64 0, .string ⟨#[]⟩, .string ⟨#[]⟩]), (63, .agg #[.int .i64 0, .int .i64 0, .int .i64 0, .string ⟨#[]⟩, .string ⟨#[]⟩]), (68, .slice none 0 0), (74, .agg #[.int .i64 0, .string ⟨#[]⟩, .string ⟨#[]⟩]), (91, .agg #[.int .i64 0, .int .i64 0]), (92, .agg #[.int .i64 0, .int .i64 0]), (93, .agg #[.int .i64 0, .int .i64 0, .string ⟨#[]⟩, .string ⟨#[]⟩]), (95, .agg #[.int .i64 0, .int .i64 0, .int .i64 0, .string ⟨#[]⟩, .string ⟨#[]⟩]), (96, .pointer none), (97, .agg #[.pointer none, .int .i64 0]), (98, .agg #[.pointer none, .int .i64 0, .pointer none, .int .i64 0, .pointer none, .int .i64 0]), (99, .map none), (108, .int .u64 0), (110, .map none), (111, .slice none 0 0), (113, .nilFunc), (114, .nilFunc), (117, .nilFunc), (118, .pointer none), (120, .agg #[.slice none 0 0, .bool false]), (126, .int .u64 0), (130, .nilFunc), (131, .agg #[.int .i64 0, .int .i64 0, .int .i64 0]), (133, .nilFunc), (135, .nilFunc), (137, .nilFunc), (139, .map none), (142, .nilFunc), (144, .nilFunc), (147, .nilFunc), (154, .int .i64 0), (162, .int .u32 0), (178, .int .u64 0), (196, .pointer none)]
  fszs := [(33, [(0, 1), (1, 1), (2, 1)]), (35, [(0, 3), (3, 1)]), (42, [(0, 1), (1, 1), (2, 1), (3, 1), (4, 1)]), (46, [(0, 1), (1, 1), (2, 1), (3, 1), (4, 1)]), (49, [(0, 1), (1, 1), (2, 1), (3, 1)]), (51, [(0, 1), (1, 1), (2, 1), (3, 4)]), (55, [(0, 1), (1, 1), (2, 1), (3, 1)]), (57, [(0, 1), (1, 1), (2, 1), (3, 4)]), (61, [(0, 1), (1, 1), (2, 1), (3, 1)]), (63, [(0, 1), (1, 4)]), (74, [(0, 1), (1, 1), (2, 1)]), (91, [(0, 1), (1, 1)]), (92, [(0, 1), (1, 1)]), (93, [(0, 1), (1, 1), (2, 1), (3, 1)]), (95, [(0, 1), (1, 4)]), (97, [(0, 1), (1, 1)]), (98, [(0, 2), (2, 2), (4, 2)]), (120, [(0, 1), (1, 1)]), (131, [(0, 1), (1, 1), (2, 1)])]
  eqs := [(33, (eqFl [.str, .int .i64, .int .i64])), (35, (eqFl [.str, .int .i64, .int .i64, .str])), (61, (eqFl [.int .i64, .int .i64, .str, .str])), (63, (eqFl [.int .i64, .int .i64, .int .i64, .str, .str])), (74, (eqFl [.int .i64, .str, .str])), (91, (eqFl [.int .i64, .int .i64])), (92, (eqFl [.int .i64, .int .i64])), (93, (eqFl [.int .i64, .int .i64, .str, .str])), (95, (eqFl [.int .i64, .int .i64, .int .i64, .str, .str])), (131, (eqFl [.int .i64, .int .i64, .int .i64]))]
  ptrs := [96, 118, 196]
  bools := [4]
  arrs := [(49, 4, 48, 1), (55, 4, 54, 1), (98, 3, 97, 2), (131, 3, 3, 1)]
  byts := [36]
  maps := [(99, ⟨92, 61, .agg #[.int .i64 0, .int .i64 0, .string ⟨#[]⟩, .string ⟨#[]⟩]⟩), (110, ⟨9, 74, .agg #[.int .i64 0, .string ⟨#[]⟩, .string ⟨#[]⟩]⟩), (139, ⟨3, 4, .bool false⟩)]
  keys := [(92, [.int .i64, .int .i64])]
  pks := [96, 118, 196]
set_option maxRecDepth 20000 in
theorem TOk : T.Ok Try.prog where
  sls := List.forall_mem_cons.2 ⟨ElemT.mk' (by kernel_rfl) (by kernel_rfl) rfl (by decide) (by decide), List.forall_mem_cons.2 ⟨ElemT.mk' (by kernel_rfl) (by kernel_rfl) rfl (by decide) (by decide), List.forall_mem_cons.2 ⟨ElemT.mk' (by kernel_rfl) (by kernel_rfl) rfl (by decide) (by decide), List.forall_mem_cons.2 ⟨ElemT.mk' (by kernel_rfl) (by kernel_rfl) rfl (by decide) (by decide), List.forall_mem_cons.2 ⟨ElemT.mk' (by kernel_rfl) (by kernel_rfl) rfl (by decide) (by decide), List.forall_mem_cons.2 ⟨ElemT.mk' (by kernel_rfl) (by kernel_rfl) rfl (by decide) (by decide), List.forall_mem_cons.2 ⟨ElemT.mk' (by kernel_rfl) (by kernel_rfl) rfl (by decide) (by decide), List.forall_mem_cons.2 ⟨ElemT.mk' (by kernel_rfl) (by kernel_rfl) rfl (by decide) (by decide), List.forall_mem_cons.2 ⟨ElemT.mk' (by kernel_rfl) (by kernel_rfl) rfl (by decide) (by decide), List.forall_mem_cons.2 ⟨ElemT.mk' (by kernel_rfl) (by kernel_rfl) rfl (by decide) (by decide), List.forall_mem_cons.2 ⟨ElemT.mk' (by kernel_rfl) (by kernel_rfl) rfl (by decide) (by decide), List.forall_mem_cons.2 ⟨ElemT.mk' (by kernel_rfl) (by kernel_rfl) rfl (by decide) (by decide), fun _ h => absurd h List.not_mem_nil⟩⟩⟩⟩⟩⟩⟩⟩⟩⟩⟩⟩
  szs := List.forall_mem_cons.2 ⟨⟨by kernel_rfl, by kernel_rfl⟩, List.forall_mem_cons.2 ⟨⟨by kernel_rfl, by kernel_rfl⟩, List.forall_mem_cons.2 ⟨⟨by kernel_rfl, by kernel_rfl⟩, List.forall_mem_cons.2 ⟨⟨by kernel_rfl, by kernel_rfl⟩, List.forall_mem_cons.2 ⟨⟨by kernel_rfl, by kernel_rfl⟩, List.forall_mem_cons.2 ⟨⟨by kernel_rfl, by kernel_rfl⟩, List.forall_mem_cons.2 ⟨⟨by kernel_rfl, by kernel_rfl⟩, List.forall_mem_cons.2 ⟨⟨by kernel_rfl, by kernel_rfl⟩, List.forall_mem_cons.2 ⟨⟨by kernel_rfl, by kernel_rfl⟩, List.forall_mem_cons.2 ⟨⟨by kernel_rfl, by kernel_rfl⟩, List.forall_mem_cons.2 ⟨⟨by kernel_rfl, by kernel_rfl⟩, List.forall_mem_cons.2 ⟨⟨by kernel_rfl, by kernel_rfl⟩, List.forall_mem_cons.2 ⟨⟨by kernel_rfl, by kernel_rfl⟩, List.forall_mem_cons.2 ⟨⟨by kernel_rfl, by kernel_rfl⟩, List.forall_mem_cons.2 ⟨⟨by kernel_rfl, by kernel_rfl⟩, List.forall_mem_cons.2 ⟨⟨by kernel_rfl, by kernel_rfl⟩, List.forall_mem_cons.2 ⟨⟨by kernel_rfl, by kernel_rfl⟩, List.forall_mem_cons.2 ⟨⟨by kernel_rfl, by kernel_rfl⟩, List.forall_mem_cons.2 ⟨⟨by kernel_rfl, by kernel_rfl⟩, List.forall_mem_cons.2 ⟨⟨by kernel_rfl, by kernel_rfl⟩, List.forall_mem_cons.2 ⟨⟨by kernel_rfl, by kernel_rfl⟩, List.forall_mem_cons.2 ⟨⟨by kernel_rfl, by kernel_rfl⟩, List.forall_mem_cons.2 ⟨⟨by kernel_rfl, by kernel_rfl⟩, List.forall_mem_cons.2 ⟨⟨by kernel_rfl, by kernel_rfl⟩, List.forall_mem_cons.2 ⟨⟨by kernel_rfl, by kernel_rfl⟩, List.forall_mem_cons.2 ⟨⟨by kernel_rfl, by kernel_rfl⟩, List.forall_mem_cons.2 ⟨⟨by kernel_rfl, by kernel_rfl⟩, List.forall_mem_cons.2 ⟨⟨by kernel_rfl, by kernel_rfl⟩, List.forall_mem_cons.2 ⟨⟨by kernel_rfl, by kernel_rfl⟩, List.forall_mem_cons.2 ⟨⟨by kernel_rfl, by kernel_rfl⟩, List.forall_mem_cons.2 ⟨⟨by kernel_rfl, by kernel_rfl⟩, List.forall_mem_cons.2 ⟨⟨by kernel_rfl, by kernel_rfl⟩, List.forall_mem_cons.2 ⟨⟨by kernel_rfl, by kernel_rfl⟩, List.forall_mem_cons.2 ⟨⟨by kernel_rfl, by kernel_rfl⟩, List.forall_mem_cons.2 ⟨⟨by kernel_rfl, by kernel_rfl⟩, List.forall_mem_cons.2 ⟨⟨by kernel_rfl, by kernel_rfl⟩, List.forall_mem_cons.2 ⟨⟨by kernel_rfl, by kernel_rfl⟩, List.forall_mem_cons.2 ⟨⟨by kernel_rfl, by kernel_rfl⟩, List.forall_mem_cons.2 ⟨⟨by kernel_rfl, by kernel_rfl⟩, List.forall_mem_cons.2 ⟨⟨by kernel_rfl, by kernel_rfl⟩, List.forall_mem_cons.2 ⟨⟨by kernel_rfl, by kernel_rfl⟩, List.forall_mem_cons.2 ⟨⟨by kernel_rfl, by kernel_rfl⟩, List.forall_mem_cons.2 ⟨⟨by kernel_rfl, by kernel_rfl⟩, List.forall_mem_cons.2 ⟨⟨by kernel_rfl, by kernel_rfl⟩, List.forall_mem_cons.2 ⟨⟨by kernel_rfl, by kernel_rfl⟩, List.forall_mem_cons.2 ⟨⟨by kernel_rfl, by kernel_rfl⟩, List.forall_mem_cons.2 ⟨⟨by kernel_rfl, by kernel_rfl⟩, List.forall_mem_cons.2 ⟨⟨by kernel_rfl, by kernel_rfl⟩, List.forall_mem_cons.2 ⟨⟨by kernel_rfl, by kernel_rfl⟩, List.forall_mem_cons.2 ⟨⟨by kernel_rfl, by kernel_rfl⟩, List.forall_mem_cons.2 ⟨⟨by kernel_rfl, by kernel_rfl⟩, List.forall_mem_cons.2 ⟨⟨by kernel_rfl, by kernel_rfl⟩, List.forall_mem_cons.2 ⟨⟨by kernel_rfl, by kernel_rfl⟩, List.forall_mem_cons.2 ⟨⟨by kernel_rfl, by kernel_rfl⟩, List.forall_mem_cons.2 ⟨⟨by kernel_rfl, by kernel_rfl⟩, List.forall_mem_cons.2 ⟨⟨by kernel_rfl, by kernel_rfl⟩, List.forall_mem_cons.2 ⟨⟨by kernel_rfl, by kernel_rfl⟩, List.forall_mem_cons.2 ⟨⟨by kernel_rfl, by kernel_rfl⟩, fun _ h => absurd h List.not_mem_nil⟩⟩⟩⟩⟩⟩⟩⟩⟩⟩⟩⟩⟩⟩⟩⟩⟩⟩⟩⟩⟩⟩⟩⟩⟩⟩⟩⟩⟩⟩⟩⟩⟩⟩⟩⟩⟩⟩⟩⟩⟩⟩⟩⟩⟩⟩⟩⟩⟩⟩⟩⟩⟩⟩⟩⟩⟩⟩
  flds := List.forall_mem_cons.2 ⟨(List.forall_mem_cons.2 ⟨by kernel_rfl, List.forall_mem_cons.2 ⟨by kernel_rfl, List.forall_mem_cons.2 ⟨by kernel_rfl, fun _ h => absurd h List.not_mem_nil⟩⟩⟩), List.forall_mem_cons.2 ⟨(List.forall_mem_cons.2 ⟨by kernel_rfl, List.forall_mem_cons.2 ⟨by kernel_rfl, fun _ h => absurd h List.not_mem_nil⟩⟩), List.forall_mem_cons.2 ⟨(List.forall_mem_cons.2 ⟨by kernel_rfl, List.forall_mem_cons.2 ⟨by kernel_rfl, List.forall_mem_cons.2 ⟨by kernel_rfl, List.forall_mem_cons.2 ⟨by kernel_rfl, List.forall_mem_cons.2 ⟨by kernel_rfl, fun _ h => absurd h List.not_mem_nil⟩⟩⟩⟩⟩), List.forall_mem_cons.2 ⟨(List.forall_mem_cons.2 ⟨by kernel_rfl, List.forall_mem_cons.2 ⟨by kernel_rfl, List.forall_mem_cons.2 ⟨by kernel_rfl, List.forall_mem_cons.2 ⟨by kernel_rfl, List.forall_mem_cons.2 ⟨by kernel_rfl, fun _ h => absurd h List.not_mem_nil⟩⟩⟩⟩⟩), List.forall_mem_cons.2 ⟨(List.forall_mem_cons.2 ⟨by kernel_rfl, List.forall_mem_cons.2 ⟨by kernel_rfl, List.forall_mem_cons.2 ⟨by kernel_rfl, List.forall_mem_cons.2 ⟨by kernel_rfl, fun _ h => absurd h List.not_mem_nil⟩⟩⟩⟩), List.forall_mem_cons.2 ⟨(List.forall_mem_cons.2 ⟨by kernel_rfl, List.forall_mem_cons.2 ⟨by kernel_rfl, List.forall_mem_cons.2 ⟨by kernel_rfl, List.forall_mem_cons.2 ⟨by kernel_rfl, fun _ h => absurd h List.not_mem_nil⟩⟩⟩⟩), List.forall_mem_cons.2 ⟨(List.forall_mem_cons.2 ⟨by kernel_rfl, List.forall_mem_cons.2 ⟨by kernel_rfl, List.forall_mem_cons.2 ⟨by kernel_rfl, List.forall_mem_cons.2 ⟨by kernel_rfl, fun _ h => absurd h List.not_mem_nil⟩⟩⟩⟩), List.forall_mem_cons.2 ⟨(List.forall_mem_cons.2 ⟨by kernel_rfl, List.forall_mem_cons.2 ⟨by kernel_rfl, fun _ h => absurd h List.not_mem_nil⟩⟩), List.forall_mem_cons.2 ⟨(List.forall_mem_cons.2 ⟨by kernel_rfl, List.forall_mem_cons.2 ⟨by kernel_rfl, List.forall_mem_cons.2 ⟨by kernel_rfl, fun _ h => absurd h List.not_mem_nil⟩⟩⟩), List.forall_mem_cons.2 ⟨(List.forall_mem_cons.2 ⟨by kernel_rfl, List.forall_mem_cons.2 ⟨by kernel_rfl, fun _ h => absurd h List.not_mem_nil⟩⟩), List.forall_mem_cons.2 ⟨(List.forall_mem_cons.2 ⟨by kernel_rfl, List.forall_mem_cons.2 ⟨by kernel_rfl, fun _ h => absurd h List.not_mem_nil⟩⟩), List.forall_mem_cons.2 ⟨(List.forall_mem_cons.2 ⟨by kernel_rfl, List.forall_mem_cons.2 ⟨by kernel_rfl, List.forall_mem_cons.2 ⟨by kernel_rfl, List.forall_mem_cons.2 ⟨by kernel_rfl, fun _ h => absurd h List.not_mem_nil⟩⟩⟩⟩), List.forall_mem_cons.2 ⟨(List.forall_mem_cons.2 ⟨by kernel_rfl, List.forall_mem_cons.2 ⟨by kernel_rfl, fun _ h => absurd h List.not_mem_nil⟩⟩), List.forall_mem_cons.2 ⟨(List.forall_mem_cons.2 ⟨by kernel_rfl, List.forall_mem_cons.2 ⟨by kernel_rfl, fun _ h => absurd h List.not_mem_nil⟩⟩), List.forall_mem_cons.2 ⟨(List.forall_mem_cons.2 ⟨by kernel_rfl, List.forall_mem_cons.2 ⟨by kernel_rfl, fun _ h => absurd h List.not_mem_nil⟩⟩), fun _ h => absurd h List.not_mem_nil⟩⟩⟩⟩⟩⟩⟩⟩⟩⟩⟩⟩⟩⟩⟩
  ints := List.forall_mem_cons.2 ⟨by kernel_rfl, List.forall_mem_cons.2 ⟨by kernel_rfl, List.forall_mem_cons.2 ⟨by kernel_rfl, List.forall_mem_cons.2 ⟨by kernel_rfl, List.forall_mem_cons.2 ⟨by kernel_rfl, List.forall_mem_cons.2 ⟨by kernel_rfl, List.forall_mem_cons.2 ⟨by kernel_rfl, List.forall_mem_cons.2 ⟨by kernel_rfl, List.forall_mem_cons.2 ⟨by kernel_rfl, fun _ h => absurd h List.not_mem_nil⟩⟩⟩⟩⟩⟩⟩⟩⟩
  strs := List.forall_mem_cons.2 ⟨by kernel_rfl, fun _ h => absurd h List.not_mem_nil⟩
  zeros := List.forall_mem_cons.2 ⟨by unfold okZero; kernel_rfl, List.forall_mem_cons.2 ⟨by unfold okZero; kernel_rfl, List.forall_mem_cons.2 ⟨by unfold okZero; kernel_rfl, List.forall_mem_cons.2 ⟨by unfold okZero; kernel_rfl, List.forall_mem_cons.2 ⟨by unfold okZero; kernel_rfl, List.forall_mem_cons.2 ⟨by unfold okZero; kernel_rfl, List.forall_mem_cons.2 ⟨by unfold okZero; kernel_rfl, List.forall_mem_cons.2 ⟨by unfold okZero; kernel_rfl, List.forall_mem_cons.2 ⟨by unfold okZero; kernel_rfl, List.forall_mem_cons.2 ⟨by unfold okZero; kernel_rfl, List.forall_mem_cons.2 ⟨by unfold okZero; kernel_rfl, List.forall_mem_cons.2 ⟨by unfold okZero; kernel_rfl, List.forall_mem_cons.2 ⟨by unfold okZero; kernel_rfl, List.forall_mem_cons.2 ⟨by unfold okZero; kernel_rfl, List.forall_mem_cons.2 ⟨by unfold okZero; kernel_rfl, List.forall_mem_cons.2 ⟨by unfold okZero; kernel_rfl, List.forall_mem_cons.2 ⟨by unfold okZero; kernel_rfl, List.forall_mem_cons.2 ⟨by unfold okZero; kernel_rfl, List.forall_mem_cons.2 ⟨by unfold okZero; kernel_rfl, List.forall_mem_cons.2 ⟨by unfold okZero; kernel_rfl, List.forall_mem_cons.2 ⟨by unfold okZero; kernel_rfl, List.forall_mem_cons.2 ⟨by unfold okZero; kernel_rfl, List.forall_mem_cons.2 ⟨by unfold okZero; kernel_rfl, List.forall_mem_cons.2 ⟨by unfold okZero; kernel_rfl, List.forall_mem_cons.2 ⟨by unfold okZero; kernel_rfl, List.forall_mem_cons.2 ⟨by unfold okZero; kernel_rfl, List.forall_mem_cons.2 ⟨by unfold okZero; kernel_rfl, List.forall_mem_cons.2 ⟨by unfold okZero; kernel_rfl, List.forall_mem_cons.2 ⟨by unfold okZero; kernel_rfl, List.forall_mem_cons.2 ⟨by unfold okZero; kernel_rfl, List.forall_mem_cons.2 ⟨by unfold okZero; kernel_rfl, List.forall_mem_cons.2 ⟨by unfold okZero; kernel_rfl, List.forall_mem_cons.2 ⟨by unfold okZero; kernel_rfl, List.forall_mem_cons.2 ⟨by unfold okZero; kernel_rfl, List.forall_mem_cons.2 ⟨by unfold okZero; kernel_rfl, List.forall_mem_cons.2 ⟨by unfold okZero; kernel_rfl, List.forall_mem_cons.2 ⟨by unfold okZero; kernel_rfl, List.forall_mem_cons.2 ⟨by unfold okZero; kernel_rfl, List.forall_mem_cons.2 ⟨by unfold okZero; kernel_rfl, List.forall_mem_cons.2 ⟨by unfold okZero; kernel_rfl, List.forall_mem_cons.2 ⟨by unfold okZero; kernel_rfl, List.forall_mem_cons.2 ⟨by unfold okZero; kernel_rfl, List.forall_mem_cons.2 ⟨by unfold okZero; kernel_rfl, List.forall_mem_cons.2 ⟨by unfold okZero; kernel_rfl, List.forall_mem_cons.2 ⟨by unfold okZero; kernel_rfl, List.forall_mem_cons.2 ⟨by unfold okZero; kernel_rfl, List.forall_mem_cons.2 ⟨by unfold okZero; kernel_rfl, List.forall_mem_cons.2 ⟨by unfold okZero; kernel_rfl, List.forall_mem_cons.2 ⟨by unfold okZero; kernel_rfl, List.forall_mem_cons.2 ⟨by unfold okZero; kernel_rfl, List.forall_mem_cons.2 ⟨by unfold okZero; kernel_rfl, List.forall_mem_cons.2 ⟨by unfold okZero; kernel_rfl, List.forall_mem_cons.2 ⟨by unfold okZero; kernel_rfl, List.forall_mem_cons.2 ⟨by unfold okZero; kernel_rfl, List.forall_mem_cons.2 ⟨by unfold okZero; kernel_rfl, List.forall_mem_cons.2 ⟨by unfold okZero; kernel_rfl, List.forall_mem_cons.2 ⟨by unfold okZero; kernel_rfl, List.forall_mem_cons.2 ⟨by unfold okZero; kernel_rfl, fun _ h => absurd h List.not_mem_nil⟩⟩⟩⟩⟩⟩⟩⟩⟩⟩⟩⟩⟩⟩⟩⟩⟩⟩⟩⟩⟩⟩⟩⟩⟩⟩⟩⟩⟩⟩⟩⟩⟩⟩⟩⟩⟩⟩⟩⟩⟩⟩⟩⟩⟩⟩⟩⟩⟩⟩⟩⟩⟩⟩⟩⟩⟩⟩
  fszs := List.forall_mem_cons.2 ⟨by unfold okFsz; kernel_rfl, List.forall_mem_cons.2 ⟨by unfold okFsz; kernel_rfl, List.forall_mem_cons.2 ⟨by unfold okFsz; kernel_rfl, List.forall_mem_cons.2 ⟨by unfold okFsz; kernel_rfl, List.forall_mem_cons.2 ⟨by unfold okFsz; kernel_rfl, List.forall_mem_cons.2 ⟨by unfold okFsz; kernel_rfl, List.forall_mem_cons.2 ⟨by unfold okFsz; kernel_rfl, List.forall_mem_cons.2 ⟨by unfold okFsz; kernel_rfl, List.forall_mem_cons.2 ⟨by unfold okFsz; kernel_rfl, List.forall_mem_cons.2 ⟨by unfold okFsz; kernel_rfl, List.forall_mem_cons.2 ⟨by unfold okFsz; kernel_rfl, List.forall_mem_cons.2 ⟨by unfold okFsz; kernel_rfl, List.forall_mem_cons.2 ⟨by unfold okFsz; kernel_rfl, List.forall_mem_cons.2 ⟨by unfold okFsz; kernel_rfl, List.forall_mem_cons.2 ⟨by unfold okFsz; kernel_rfl, List.forall_mem_cons.2 ⟨by unfold okFsz; kernel_rfl, List.forall_mem_cons.2 ⟨by unfold okFsz; kernel_rfl, List.forall_mem_cons.2 ⟨by unfold okFsz; kernel_rfl, List.forall_mem_cons.2 ⟨by unfold okFsz; kernel_rfl, fun _ h => absurd h List.not_mem_nil⟩⟩⟩⟩⟩⟩⟩⟩⟩⟩⟩⟩⟩⟩⟩⟩⟩⟩⟩
  eqs := List.forall_mem_cons.2 ⟨okEq_flat ⟨by kernel_rfl, by kernel_rfl⟩ (by kernel_rfl), List.forall_mem_cons.2 ⟨okEq_flat ⟨by kernel_rfl, by kernel_rfl⟩ (by kernel_rfl), List.forall_mem_cons.2 ⟨okEq_flat ⟨by kernel_rfl, by kernel_rfl⟩ (by kernel_rfl), List.forall_mem_cons.2 ⟨okEq_flat ⟨by kernel_rfl, by kernel_rfl⟩ (by kernel_rfl), List.forall_mem_cons.2 ⟨okEq_flat ⟨by kernel_rfl, by kernel_rfl⟩ (by kernel_rfl), List.forall_mem_cons.2 ⟨okEq_flat ⟨by kernel_rfl, by kernel_rfl⟩ (by kernel_rfl), List.forall_mem_cons.2 ⟨okEq_flat ⟨by kernel_rfl, by kernel_rfl⟩ (by kernel_rfl), List.forall_mem_cons.2 ⟨okEq_flat ⟨by kernel_rfl, by kernel_rfl⟩ (by kernel_rfl), List.forall_mem_cons.2 ⟨okEq_flat ⟨by kernel_rfl, by kernel_rfl⟩ (by kernel_rfl), List.forall_mem_cons.2 ⟨okEq_flat ⟨by kernel_rfl, by kernel_rfl⟩ (by kernel_rfl), fun _ h => absurd h List.not_mem_nil⟩⟩⟩⟩⟩⟩⟩⟩⟩⟩
  ptrs := List.forall_mem_cons.2 ⟨by unfold okPtr; kernel_rfl, List.forall_mem_cons.2 ⟨by unfold okPtr; kernel_rfl, List.forall_mem_cons.2 ⟨by unfold okPtr; kernel_rfl, fun _ h => absurd h List.not_mem_nil⟩⟩⟩
  bools := List.forall_mem_cons.2 ⟨by kernel_rfl, fun _ h => absurd h List.not_mem_nil⟩
  arrs := List.forall_mem_cons.2 ⟨⟨by kernel_rfl, by kernel_rfl⟩, List.forall_mem_cons.2 ⟨⟨by kernel_rfl, by kernel_rfl⟩, List.forall_mem_cons.2 ⟨⟨by kernel_rfl, by kernel_rfl⟩, List.forall_mem_cons.2 ⟨⟨by kernel_rfl, by kernel_rfl⟩, fun _ h => absurd h List.not_mem_nil⟩⟩⟩⟩
  byts := List.forall_mem_cons.2 ⟨⟨5, by kernel_rfl, by kernel_rfl, by kernel_rfl⟩, fun _ h => absurd h List.not_mem_nil⟩
  maps := List.forall_mem_cons.2 ⟨⟨by kernel_rfl, by kernel_rfl⟩, List.forall_mem_cons.2 ⟨⟨by kernel_rfl, by kernel_rfl⟩, List.forall_mem_cons.2 ⟨⟨by kernel_rfl, by kernel_rfl⟩, fun _ h => absurd h List.not_mem_nil⟩⟩⟩
  keys := List.forall_mem_cons.2 ⟨⟨by kernel_rfl, by kernel_rfl⟩, fun _ h => absurd h List.not_mem_nil⟩
  pks := List.forall_mem_cons.2 ⟨by kernel_rfl, List.forall_mem_cons.2 ⟨by kernel_rfl, List.forall_mem_cons.2 ⟨by kernel_rfl, fun _ h => absurd h List.not_mem_nil⟩⟩⟩
theorem pks96 : T.pks.elem 96 = true := rfl
theorem pks118 : T.pks.elem 118 = true := rfl
theorem pks196 : T.pks.elem 196 = true := rfl
theorem keys92 : lk? T.keys 92 = some [.int .i64, .int .i64] := rfl
theorem zeros2 : lk? T.zeros 2 = some (.int .i64 0) := rfl
theorem zeros3 : lk? T.zeros 3 = some (.int .i64 0) := rfl
theorem zeros4 : lk? T.zeros 4 = some (.bool false) := rfl
theorem zeros5 : lk? T.zeros 5 = some (.int .u8 0) := rfl
theorem zeros9 : lk? T.zeros 9 = some (.string ⟨#[]⟩) := rfl
theorem zeros22 : lk? T.zeros 22 = some (.slice none 0 0) := rfl
theorem zeros23 : lk? T.zeros 23 = some (.slice none 0 0) := rfl
theorem zeros26 : lk? T.zeros 26 = some (.int .i64 0) := rfl
theorem zeros29 : lk? T.zeros 29 = some (.slice none 0 0) := rfl
theorem zeros33 : lk? T.zeros 33 = some (.agg #[.string ⟨#[]⟩, .int .i64 0, .int .i64 0]) := rfl
theorem zeros35 : lk? T.zeros 35 = some (.agg #[.string ⟨#[]⟩, .int .i64 0, .int .i64 0, .string ⟨#[]⟩]) := rfl
theorem zeros36 : lk? T.zeros 36 = some (.slice none 0 0) := rfl
theorem zeros39 : lk? T.zeros 39 = some (.slice none 0 0) := rfl
theorem zeros40 : lk? T.zeros 40 = some (.slice none 0 0) := rfl
theorem zeros42 : lk? T.zeros 42 = some (.agg #[.int .i64 0, .int .i64 0, .int .i64 0, .slice none 0 0, .slice none 0 0]) := rfl
theorem zeros43 : lk? T.zeros 43 = some (.slice none 0 0) := rfl
theorem zeros44 : lk? T.zeros 44 = some (.slice none 0 0) := rfl
theorem zeros46 : lk? T.zeros 46 = some (.agg #[.int .i64 0, .int .i64 0, .int .i64 0, .slice none 0 0, .slice none 0 0]) := rfl
theorem zeros48 : lk? T.zeros 48 = some (.slice none 0 0) := rfl
theorem zeros49 : lk? T.zeros 49 = some (.agg #[.slice none 0 0, .slice none 0 0, .slice none 0 0, .slice none 0 0]) := rfl
theorem zeros51 : lk? T.zeros 51 = some (.agg #[.int .i64 0, .int .i64 0, .int .i64 0, .slice none 0 0, .slice none 0 0, .slice none 0 0, .slice none 0 0]) := rfl
theorem zeros54 : lk? T.zeros 54 = some (.slice none 0 0) := rfl
theorem zeros55 : lk? T.zeros 55 = some (.agg #[.slice none 0 0, .slice none 0 0, .slice none 0 0, .slice none 0 0]) := rfl
theorem zeros57 : lk? T.zeros 57 = some (.agg #[.int .i64 0, .int .i64 0, .int .i64 0, .slice none 0 0, .slice none 0 0, .slice none 0 0, .slice none 0 0]) := rfl
theorem zeros61 : lk? T.zeros 61 = some (.agg #[.int .i64 0, .int .i64 0, .string ⟨#[]⟩, .string ⟨#[]⟩]) := rfl
theorem zeros63 : lk? T.zeros 63 = some (.agg #[.int .i64 0, .int .i64 0, .int .i64 0, .string ⟨#[]⟩, .string ⟨#[]⟩]) := rfl
theorem zeros68 : lk? T.zeros 68 = some (.slice none 0 0) := rfl
theorem zeros74 : lk? T.zeros 74 = some (.agg #[.int .i64 0, .string ⟨#[]⟩, .string ⟨#[]⟩]) := rfl
theorem zeros91 : lk? T.zeros 91 = some (.agg #[.int .i64 0, .int .i64 0]) := rfl
theorem zeros92 : lk? T.zeros 92 = some (.agg #[.int .i64 0, .int .i64 0]) := rfl
theorem zeros93 : lk? T.zeros 93 = some (.agg #[.int .i64 0, .int .i64 0, .string ⟨#[]⟩, .string ⟨#[]⟩]) := rfl
theorem zeros95 : lk? T.zeros 95 = some (.agg #[.int .i64 0, .int .i64 0, .int .i64 0, .string ⟨#[]⟩, .string ⟨#[]⟩]) := rfl
theorem zeros96 : lk? T.zeros 96 = some (.pointer none) := rfl
theorem zeros97 : lk? T.zeros 97 = some (.agg #[.pointer none, .int .i64 0]) := rfl
theorem zeros98 : lk? T.zeros 98 = some (.agg #[.pointer none, .int .i64 0, .pointer none, .int .i64 0, .pointer none, .int .i64 0]) := rfl
theorem zeros99 : lk? T.zeros 99 = some (.map none) := rfl
theorem zeros108 : lk? T.zeros 108 = some (.int .u64 0) := rfl
theorem zeros110 : lk? T.zeros 110 = some (.map none) := rfl
theorem zeros111 : lk? T.zeros 111 = some (.slice none 0 0) := rfl
theorem zeros113 : lk? T.zeros 113 = some (.nilFunc) := rfl
theorem zeros114 : lk? T.zeros 114 = some (.nilFunc) := rfl
theorem zeros117 : lk? T.zeros 117 = some (.nilFunc) := rfl
theorem zeros118 : lk? T.zeros 118 = some (.pointer none) := rfl
theorem zeros120 : lk? T.zeros 120 = some (.agg #[.slice none 0 0, .bool false]) := rfl
theorem zeros126 : lk? T.zeros 126 = some (.int .u64 0) := rfl
theorem zeros130 : lk? T.zeros 130 = some (.nilFunc) := rfl
theorem zeros131 : lk? T.zeros 131 = some (.agg #[.int .i64 0, .int .i64 0, .int .i64 0]) := rfl
theorem zeros133 : lk? T.zeros 133 = some (.nilFunc) := rfl
theorem zeros135 : lk? T.zeros 135 = some (.nilFunc) := rfl
theorem zeros137 : lk? T.zeros 137 = some (.nilFunc) := rfl
theorem zeros139 : lk? T.zeros 139 = some (.map none) := rfl
theorem zeros142 : lk? T.zeros 142 = some (.nilFunc) := rfl
theorem zeros144 : lk? T.zeros 144 = some (.nilFunc) := rfl
theorem zeros147 : lk? T.zeros 147 = some (.nilFunc) := rfl
theorem zeros154 : lk? T.zeros 154 = some (.int .i64 0) := rfl
theorem zeros162 : lk? T.zeros 162 = some (.int .u32 0) := rfl
theorem zeros178 : lk? T.zeros 178 = some (.int .u64 0) := rfl
theorem zeros196 : lk? T.zeros 196 = some (.pointer none) := rfl
theorem fszs33 : lk? T.fszs 33 = some [(0, 1), (1, 1), (2, 1)] := rfl
theorem fszs35 : lk? T.fszs 35 = some [(0, 3), (3, 1)] := rfl
theorem fszs42 : lk? T.fszs 42 = some [(0, 1), (1, 1), (2, 1), (3, 1), (4, 1)] := rfl
theorem fszs46 : lk? T.fszs 46 = some [(0, 1), (1, 1), (2, 1), (3, 1), (4, 1)] := rfl
theorem fszs49 : lk? T.fszs 49 = some [(0, 1), (1, 1), (2, 1), (3, 1)] := rfl
theorem fszs51 : lk? T.fszs 51 = some [(0, 1), (1, 1), (2, 1), (3, 4)] := rfl
theorem fszs55 : lk? T.fszs 55 = some [(0, 1), (1, 1), (2, 1), (3, 1)] := rfl
theorem fszs57 : lk? T.fszs 57 = some [(0, 1), (1, 1), (2, 1), (3, 4)] := rfl
theorem fszs61 : lk? T.fszs 61 = some [(0, 1), (1, 1), (2, 1), (3, 1)] := rfl
theorem fszs63 : lk? T.fszs 63 = some [(0, 1), (1, 4)] := rfl
theorem fszs74 : lk? T.fszs 74 = some [(0, 1), (1, 1), (2, 1)] := rfl
theorem fszs91 : lk? T.fszs 91 = some [(0, 1), (1, 1)] := rfl
theorem fszs92 : lk? T.fszs 92 = some [(0, 1), (1, 1)] := rfl
theorem fszs93 : lk? T.fszs 93 = some [(0, 1), (1, 1), (2, 1), (3, 1)] := rfl
theorem fszs95 : lk? T.fszs 95 = some [(0, 1), (1, 4)] := rfl
theorem fszs97 : lk? T.fszs 97 = some [(0, 1), (1, 1)] := rfl
theorem fszs98 : lk? T.fszs 98 = some [(0, 2), (2, 2), (4, 2)] := rfl
theorem fszs120 : lk? T.fszs 120 = some [(0, 1), (1, 1)] := rfl
theorem fszs131 : lk? T.fszs 131 = some [(0, 1), (1, 1), (2, 1)] := rfl
theorem eqs33 : lk? T.eqs 33 = some (eqFl [.str, .int .i64, .int .i64]) := rfl
theorem eqs35 : lk? T.eqs 35 = some (eqFl [.str, .int .i64, .int .i64, .str]) := rfl
theorem eqs61 : lk? T.eqs 61 = some (eqFl [.int .i64, .int .i64, .str, .str]) := rfl
theorem eqs63 : lk? T.eqs 63 = some (eqFl [.int .i64, .int .i64, .int .i64, .str, .str]) := rfl
theorem eqs74 : lk? T.eqs 74 = some (eqFl [.int .i64, .str, .str]) := rfl
theorem eqs91 : lk? T.eqs 91 = some (eqFl [.int .i64, .int .i64]) := rfl
theorem eqs92 : lk? T.eqs 92 = some (eqFl [.int .i64, .int .i64]) := rfl
theorem eqs93 : lk? T.eqs 93 = some (eqFl [.int .i64, .int .i64, .str, .str]) := rfl
theorem eqs95 : lk? T.eqs 95 = some (eqFl [.int .i64, .int .i64, .int .i64, .str, .str]) := rfl
theorem eqs131 : lk? T.eqs 131 = some (eqFl [.int .i64, .int .i64, .int .i64]) := rfl
theorem sls22 : lk? T.sls 22 = some ⟨35, 4, 48, .agg #[.string ⟨#[]⟩, .int .i64 0, .int .i64 0, .string ⟨#[]⟩]⟩ := rfl
theorem sls23 : lk? T.sls 23 = some ⟨3, 1, 8, .int .i64 0⟩ := rfl
theorem sls29 : lk? T.sls 29 = some ⟨22, 1, 24, .slice none 0 0⟩ := rfl
theorem sls36 : lk? T.sls 36 = some ⟨5, 1, 1, .int .u8 0⟩ := rfl
theorem sls39 : lk? T.sls 39 = some ⟨95, 5, 56, .agg #[.int .i64 0, .int .i64 0, .int .i64 0, .string ⟨#[]⟩, .string ⟨#[]⟩]⟩ := rfl
theorem sls40 : lk? T.sls 40 = some ⟨91, 2, 16, .agg #[.int .i64 0, .int .i64 0]⟩ := rfl
theorem sls43 : lk? T.sls 43 = some ⟨92, 2, 16, .agg #[.int .i64 0, .int .i64 0]⟩ := rfl
theorem sls44 : lk? T.sls 44 = some ⟨63, 5, 56, .agg #[.int .i64 0, .int .i64 0, .int .i64 0, .string ⟨#[]⟩, .string ⟨#[]⟩]⟩ := rfl
theorem sls48 : lk? T.sls 48 = some ⟨61, 4, 48, .agg #[.int .i64 0, .int .i64 0, .string ⟨#[]⟩, .string ⟨#[]⟩]⟩ := rfl
theorem sls54 : lk? T.sls 54 = some ⟨93, 4, 48, .agg #[.int .i64 0, .int .i64 0, .string ⟨#[]⟩, .string ⟨#[]⟩]⟩ := rfl
theorem sls68 : lk? T.sls 68 = some ⟨74, 3, 40, .agg #[.int .i64 0, .string ⟨#[]⟩, .string ⟨#[]⟩]⟩ := rfl
theorem sls111 : lk? T.sls 111 = some ⟨9, 1, 16, .string ⟨#[]⟩⟩ := rfl
theorem szs2 : lk? T.szs 2 = some none := rfl
theorem szs3 : lk? T.szs 3 = some none := rfl
theorem szs4 : lk? T.szs 4 = some none := rfl
theorem szs5 : lk? T.szs 5 = some none := rfl
theorem szs9 : lk? T.szs 9 = some none := rfl
theorem szs22 : lk? T.szs 22 = some none := rfl
theorem szs23 : lk? T.szs 23 = some none := rfl
theorem szs26 : lk? T.szs 26 = some none := rfl
theorem szs29 : lk? T.szs 29 = some none := rfl
theorem szs33 : lk? T.szs 33 = some (some 3) := rfl
theorem szs35 : lk? T.szs 35 = some (some 4) := rfl
theorem szs36 : lk? T.szs 36 = some none := rfl
theorem szs39 : lk? T.szs 39 = some none := rfl
theorem szs40 : lk? T.szs 40 = some none := rfl
theorem szs42 : lk? T.szs 42 = some (some 5) := rfl
theorem szs43 : lk? T.szs 43 = some none := rfl
theorem szs44 : lk? T.szs 44 = some none := rfl
theorem szs46 : lk? T.szs 46 = some (some 5) := rfl
theorem szs48 : lk? T.szs 48 = some none := rfl
theorem szs49 : lk? T.szs 49 = some (some 4) := rfl
theorem szs51 : lk? T.szs 51 = some (some 7) := rfl
theorem szs54 : lk? T.szs 54 = some none := rfl
theorem szs55 : lk? T.szs 55 = some (some 4) := rfl
theorem szs57 : lk? T.szs 57 = some (some 7) := rfl
theorem szs61 : lk? T.szs 61 = some (some 4) := rfl
theorem szs63 : lk? T.szs 63 = some (some 5) := rfl
theorem szs68 : lk? T.szs 68 = some none := rfl
theorem szs74 : lk? T.szs 74 = some (some 3) := rfl
theorem szs91 : lk? T.szs 91 = some (some 2) := rfl
theorem szs92 : lk? T.szs 92 = some (some 2) := rfl
theorem szs93 : lk? T.szs 93 = some (some 4) := rfl
theorem szs95 : lk? T.szs 95 = some (some 5) := rfl
theorem szs96 : lk? T.szs 96 = some none := rfl
theorem szs97 : lk? T.szs 97 = some (some 2) := rfl
theorem szs98 : lk? T.szs 98 = some (some 6) := rfl
theorem szs99 : lk? T.szs 99 = some none := rfl
theorem szs108 : lk? T.szs 108 = some none := rfl
theorem szs110 : lk? T.szs 110 = some none := rfl
theorem szs111 : lk? T.szs 111 = some none := rfl
theorem szs113 : lk? T.szs 113 = some none := rfl
theorem szs114 : lk? T.szs 114 = some none := rfl
theorem szs117 : lk? T.szs 117 = some none := rfl
theorem szs118 : lk? T.szs 118 = some none := rfl
theorem szs120 : lk? T.szs 120 = some (some 2) := rfl
theorem szs126 : lk? T.szs 126 = some none := rfl
theorem szs130 : lk? T.szs 130 = some none := rfl
theorem szs131 : lk? T.szs 131 = some (some 3) := rfl
theorem szs133 : lk? T.szs 133 = some none := rfl
theorem szs135 : lk? T.szs 135 = some none := rfl
theorem szs137 : lk? T.szs 137 = some none := rfl
theorem szs139 : lk? T.szs 139 = some none := rfl
theorem szs142 : lk? T.szs 142 = some none := rfl
theorem szs144 : lk? T.szs 144 = some none := rfl
theorem szs147 : lk? T.szs 147 = some none := rfl
theorem szs154 : lk? T.szs 154 = some none := rfl
theorem szs162 : lk? T.szs 162 = some none := rfl
theorem szs178 : lk? T.szs 178 = some none := rfl
theorem szs196 : lk? T.szs 196 = some none := rfl
theorem fld33_0 : T.fld 33 0 = some 0 := rfl
theorem fld33_1 : T.fld 33 1 = some 1 := rfl
theorem fld33_2 : T.fld 33 2 = some 2 := rfl
theorem fld35_0 : T.fld 35 0 = some 0 := rfl
theorem fld35_1 : T.fld 35 1 = some 3 := rfl
theorem fld42_0 : T.fld 42 0 = some 0 := rfl
theorem fld42_1 : T.fld 42 1 = some 1 := rfl
theorem fld42_2 : T.fld 42 2 = some 2 := rfl
theorem fld42_3 : T.fld 42 3 = some 3 := rfl
theorem fld42_4 : T.fld 42 4 = some 4 := rfl
theorem fld46_0 : T.fld 46 0 = some 0 := rfl
theorem fld46_1 : T.fld 46 1 = some 1 := rfl
theorem fld46_2 : T.fld 46 2 = some 2 := rfl
theorem fld46_3 : T.fld 46 3 = some 3 := rfl
theorem fld46_4 : T.fld 46 4 = some 4 := rfl
theorem fld51_0 : T.fld 51 0 = some 0 := rfl
theorem fld51_1 : T.fld 51 1 = some 1 := rfl
theorem fld51_2 : T.fld 51 2 = some 2 := rfl
theorem fld51_3 : T.fld 51 3 = some 3 := rfl
theorem fld57_0 : T.fld 57 0 = some 0 := rfl
theorem fld57_1 : T.fld 57 1 = some 1 := rfl
theorem fld57_2 : T.fld 57 2 = some 2 := rfl
theorem fld57_3 : T.fld 57 3 = some 3 := rfl
theorem fld61_0 : T.fld 61 0 = some 0 := rfl
theorem fld61_1 : T.fld 61 1 = some 1 := rfl
theorem fld61_2 : T.fld 61 2 = some 2 := rfl
theorem fld61_3 : T.fld 61 3 = some 3 := rfl
theorem fld63_0 : T.fld 63 0 = some 0 := rfl
theorem fld63_1 : T.fld 63 1 = some 1 := rfl
theorem fld74_0 : T.fld 74 0 = some 0 := rfl
theorem fld74_1 : T.fld 74 1 = some 1 := rfl
theorem fld74_2 : T.fld 74 2 = some 2 := rfl
theorem fld91_0 : T.fld 91 0 = some 0 := rfl
theorem fld91_1 : T.fld 91 1 = some 1 := rfl
theorem fld92_0 : T.fld 92 0 = some 0 := rfl
theorem fld92_1 : T.fld 92 1 = some 1 := rfl
theorem fld93_0 : T.fld 93 0 = some 0 := rfl
theorem fld93_1 : T.fld 93 1 = some 1 := rfl
theorem fld93_2 : T.fld 93 2 = some 2 := rfl
theorem fld93_3 : T.fld 93 3 = some 3 := rfl
theorem fld95_0 : T.fld 95 0 = some 0 := rfl
theorem fld95_1 : T.fld 95 1 = some 1 := rfl
theorem fld97_0 : T.fld 97 0 = some 0 := rfl
theorem fld97_1 : T.fld 97 1 = some 1 := rfl
theorem fld120_0 : T.fld 120 0 = some 0 := rfl
theorem fld120_1 : T.fld 120 1 = some 1 := rfl
theorem ints2 : lk? T.ints 2 = some .i64 := rfl
theorem ints3 : lk? T.ints 3 = some .i64 := rfl
theorem ints5 : lk? T.ints 5 = some .u8 := rfl
theorem ints26 : lk? T.ints 26 = some .i64 := rfl
theorem ints108 : lk? T.ints 108 = some .u64 := rfl
theorem ints126 : lk? T.ints 126 = some .u64 := rfl
theorem ints154 : lk? T.ints 154 = some .i64 := rfl
theorem ints162 : lk? T.ints 162 = some .u32 := rfl
theorem ints178 : lk? T.ints 178 = some .u64 := rfl
theorem strs9 : T.strs.elem 9 = true := rfl
theorem ptrs96 : T.ptrs.elem 96 = true := rfl
theorem ptrs118 : T.ptrs.elem 118 = true := rfl
theorem ptrs196 : T.ptrs.elem 196 = true := rfl
theorem bools4 : T.bools.elem 4 = true := rfl
theorem nptr4 : T.ptrs.elem 4 = false := rfl
theorem arrs49 : lk? T.arrs 49 = some (4, 48, 1) := rfl
theorem arrs55 : lk? T.arrs 55 = some (4, 54, 1) := rfl
theorem arrs98 : lk? T.arrs 98 = some (3, 97, 2) := rfl
theorem arrs131 : lk? T.arrs 131 = some (3, 3, 1) := rfl
theorem byts36 : T.byts.elem 36 = true := rfl
theorem maps99 : lk? T.maps 99 = some ⟨92, 61, .agg #[.int .i64 0, .int .i64 0, .string ⟨#[]⟩, .string ⟨#[]⟩]⟩ := rfl
theorem maps110 : lk? T.maps 110 = some ⟨9, 74, .agg #[.int .i64 0, .string ⟨#[]⟩, .string ⟨#[]⟩]⟩ := rfl
theorem maps139 : lk? T.maps 139 = some ⟨3, 4, .bool false⟩ := rfl
theorem narr0 : lk? T.arrs 0 = none := rfl
theorem nint0 : lk? T.ints 0 = none := rfl
theorem nsls0 : lk? T.sls 0 = none := rfl
theorem nstr0 : T.strs.elem 0 = false := rfl
theorem nbyt0 : T.byts.elem 0 = false := rfl
theorem narr2 : lk? T.arrs 2 = none := rfl
theorem nsls2 : lk? T.sls 2 = none := rfl
theorem nstr2 : T.strs.elem 2 = false := rfl
theorem nbyt2 : T.byts.elem 2 = false := rfl
theorem narr3 : lk? T.arrs 3 = none := rfl
theorem nsls3 : lk? T.sls 3 = none := rfl
theorem nstr3 : T.strs.elem 3 = false := rfl
theorem nbyt3 : T.byts.elem 3 = false := rfl
theorem narr4 : lk? T.arrs 4 = none := rfl
theorem nint4 : lk? T.ints 4 = none := rfl
theorem nsls4 : lk? T.sls 4 = none := rfl
theorem nstr4 : T.strs.elem 4 = false := rfl
theorem nbyt4 : T.byts.elem 4 = false := rfl
theorem narr5 : lk? T.arrs 5 = none := rfl
theorem nsls5 : lk? T.sls 5 = none := rfl
theorem nstr5 : T.strs.elem 5 = false := rfl
theorem nbyt5 : T.byts.elem 5 = false := rfl
theorem narr9 : lk? T.arrs 9 = none := rfl
theorem nint9 : lk? T.ints 9 = none := rfl
theorem nsls9 : lk? T.sls 9 = none := rfl
theorem nbyt9 : T.byts.elem 9 = false := rfl
theorem narr22 : lk? T.arrs 22 = none := rfl
theorem nint22 : lk? T.ints 22 = none := rfl
theorem nstr22 : T.strs.elem 22 = false := rfl
theorem nbyt22 : T.byts.elem 22 = false := rfl
theorem narr23 : lk? T.arrs 23 = none := rfl
theorem nint23 : lk? T.ints 23 = none := rfl
theorem nstr23 : T.strs.elem 23 = false := rfl
theorem nbyt23 : T.byts.elem 23 = false := rfl
theorem narr26 : lk? T.arrs 26 = none := rfl
theorem nsls26 : lk? T.sls 26 = none := rfl
theorem nstr26 : T.strs.elem 26 = false := rfl
theorem nbyt26 : T.byts.elem 26 = false := rfl
theorem narr27 : lk? T.arrs 27 = none := rfl
theorem nint27 : lk? T.ints 27 = none := rfl
theorem nsls27 : lk? T.sls 27 = none := rfl
theorem nstr27 : T.strs.elem 27 = false := rfl
theorem nbyt27 : T.byts.elem 27 = false := rfl
theorem narr29 : lk? T.arrs 29 = none := rfl
theorem nint29 : lk? T.ints 29 = none := rfl
theorem nstr29 : T.strs.elem 29 = false := rfl
theorem nbyt29 : T.byts.elem 29 = false := rfl
theorem narr30 : lk? T.arrs 30 = none := rfl
theorem nint30 : lk? T.ints 30 = none := rfl
theorem nsls30 : lk? T.sls 30 = none := rfl
theorem nstr30 : T.strs.elem 30 = false := rfl
theorem nbyt30 : T.byts.elem 30 = false := rfl
theorem narr33 : lk? T.arrs 33 = none := rfl
theorem nint33 : lk? T.ints 33 = none := rfl
theorem nsls33 : lk? T.sls 33 = none := rfl
theorem nstr33 : T.strs.elem 33 = false := rfl
theorem nbyt33 : T.byts.elem 33 = false := rfl
theorem narr35 : lk? T.arrs 35 = none := rfl
theorem nint35 : lk? T.ints 35 = none := rfl
theorem nsls35 : lk? T.sls 35 = none := rfl
theorem nstr35 : T.strs.elem 35 = false := rfl
theorem nbyt35 : T.byts.elem 35 = false := rfl
theorem narr36 : lk? T.arrs 36 = none := rfl
theorem nint36 : lk? T.ints 36 = none := rfl
theorem nstr36 : T.strs.elem 36 = false := rfl
theorem narr39 : lk? T.arrs 39 = none := rfl
theorem nint39 : lk? T.ints 39 = none := rfl
theorem nstr39 : T.strs.elem 39 = false := rfl
theorem nbyt39 : T.byts.elem 39 = false := rfl
theorem narr40 : lk? T.arrs 40 = none := rfl
theorem nint40 : lk? T.ints 40 = none := rfl
theorem nstr40 : T.strs.elem 40 = false := rfl
theorem nbyt40 : T.byts.elem 40 = false := rfl
theorem narr42 : lk? T.arrs 42 = none := rfl
theorem nint42 : lk? T.ints 42 = none := rfl
theorem nsls42 : lk? T.sls 42 = none := rfl
theorem nstr42 : T.strs.elem 42 = false := rfl
theorem nbyt42 : T.byts.elem 42 = false := rfl
theorem narr43 : lk? T.arrs 43 = none := rfl
theorem nint43 : lk? T.ints 43 = none := rfl
theorem nstr43 : T.strs.elem 43 = false := rfl
theorem nbyt43 : T.byts.elem 43 = false := rfl
theorem narr44 : lk? T.arrs 44 = none := rfl
theorem nint44 : lk? T.ints 44 = none := rfl
theorem nstr44 : T.strs.elem 44 = false := rfl
theorem nbyt44 : T.byts.elem 44 = false := rfl
theorem narr46 : lk? T.arrs 46 = none := rfl
theorem nint46 : lk? T.ints 46 = none := rfl
theorem nsls46 : lk? T.sls 46 = none := rfl
theorem nstr46 : T.strs.elem 46 = false := rfl
theorem nbyt46 : T.byts.elem 46 = false := rfl
theorem narr48 : lk? T.arrs 48 = none := rfl
theorem nint48 : lk? T.ints 48 = none := rfl
theorem nstr48 : T.strs.elem 48 = false := rfl
theorem nbyt48 : T.byts.elem 48 = false := rfl
theorem nint49 : lk? T.ints 49 = none := rfl
theorem nsls49 : lk? T.sls 49 = none := rfl
theorem nstr49 : T.strs.elem 49 = false := rfl
theorem nbyt49 : T.byts.elem 49 = false := rfl
theorem narr51 : lk? T.arrs 51 = none := rfl
theorem nint51 : lk? T.ints 51 = none := rfl
theorem nsls51 : lk? T.sls 51 = none := rfl
theorem nstr51 : T.strs.elem 51 = false := rfl
theorem nbyt51 : T.byts.elem 51 = false := rfl
theorem narr52 : lk? T.arrs 52 = none := rfl
theorem nint52 : lk? T.ints 52 = none := rfl
theorem nsls52 : lk? T.sls 52 = none := rfl
theorem nstr52 : T.strs.elem 52 = false := rfl
theorem nbyt52 : T.byts.elem 52 = false := rfl
theorem narr54 : lk? T.arrs 54 = none := rfl
theorem nint54 : lk? T.ints 54 = none := rfl
theorem nstr54 : T.strs.elem 54 = false := rfl
theorem nbyt54 : T.byts.elem 54 = false := rfl
theorem nint55 : lk? T.ints 55 = none := rfl
theorem nsls55 : lk? T.sls 55 = none := rfl
theorem nstr55 : T.strs.elem 55 = false := rfl
theorem nbyt55 : T.byts.elem 55 = false := rfl
theorem narr57 : lk? T.arrs 57 = none := rfl
theorem nint57 : lk? T.ints 57 = none := rfl
theorem nsls57 : lk? T.sls 57 = none := rfl
theorem nstr57 : T.strs.elem 57 = false := rfl
theorem nbyt57 : T.byts.elem 57 = false := rfl
theorem narr61 : lk? T.arrs 61 = none := rfl
theorem nint61 : lk? T.ints 61 = none := rfl
theorem nsls61 : lk? T.sls 61 = none := rfl
theorem nstr61 : T.strs.elem 61 = false := rfl
theorem nbyt61 : T.byts.elem 61 = false := rfl
theorem narr63 : lk? T.arrs 63 = none := rfl
theorem nint63 : lk? T.ints 63 = none := rfl
theorem nsls63 : lk? T.sls 63 = none := rfl
theorem nstr63 : T.strs.elem 63 = false := rfl
theorem nbyt63 : T.byts.elem 63 = false := rfl
theorem narr68 : lk? T.arrs 68 = none := rfl
theorem nint68 : lk? T.ints 68 = none := rfl
theorem nstr68 : T.strs.elem 68 = false := rfl
theorem nbyt68 : T.byts.elem 68 = false := rfl
theorem narr69 : lk? T.arrs 69 = none := rfl
theorem nint69 : lk? T.ints 69 = none := rfl
theorem nsls69 : lk? T.sls 69 = none := rfl
theorem nstr69 : T.strs.elem 69 = false := rfl
theorem nbyt69 : T.byts.elem 69 = false := rfl
theorem narr74 : lk? T.arrs 74 = none := rfl
theorem nint74 : lk? T.ints 74 = none := rfl
theorem nsls74 : lk? T.sls 74 = none := rfl
theorem nstr74 : T.strs.elem 74 = false := rfl
theorem nbyt74 : T.byts.elem 74 = false := rfl
theorem narr76 : lk? T.arrs 76 = none := rfl
theorem nint76 : lk? T.ints 76 = none := rfl
theorem nsls76 : lk? T.sls 76 = none := rfl
theorem nstr76 : T.strs.elem 76 = false := rfl
theorem nbyt76 : T.byts.elem 76 = false := rfl
theorem narr91 : lk? T.arrs 91 = none := rfl
theorem nint91 : lk? T.ints 91 = none := rfl
theorem nsls91 : lk? T.sls 91 = none := rfl
theorem nstr91 : T.strs.elem 91 = false := rfl
theorem nbyt91 : T.byts.elem 91 = false := rfl
theorem narr92 : lk? T.arrs 92 = none := rfl
theorem nint92 : lk? T.ints 92 = none := rfl
theorem nsls92 : lk? T.sls 92 = none := rfl
theorem nstr92 : T.strs.elem 92 = false := rfl
theorem nbyt92 : T.byts.elem 92 = false := rfl
theorem narr93 : lk? T.arrs 93 = none := rfl
theorem nint93 : lk? T.ints 93 = none := rfl
theorem nsls93 : lk? T.sls 93 = none := rfl
theorem nstr93 : T.strs.elem 93 = false := rfl
theorem nbyt93 : T.byts.elem 93 = false := rfl
theorem narr95 : lk? T.arrs 95 = none := rfl
theorem nint95 : lk? T.ints 95 = none := rfl
theorem nsls95 : lk? T.sls 95 = none := rfl
theorem nstr95 : T.strs.elem 95 = false := rfl
theorem nbyt95 : T.byts.elem 95 = false := rfl
theorem narr96 : lk? T.arrs 96 = none := rfl
theorem nint96 : lk? T.ints 96 = none := rfl
theorem nsls96 : lk? T.sls 96 = none := rfl
theorem nstr96 : T.strs.elem 96 = false := rfl
theorem nbyt96 : T.byts.elem 96 = false := rfl
theorem narr97 : lk? T.arrs 97 = none := rfl
theorem nint97 : lk? T.ints 97 = none := rfl
theorem nsls97 : lk? T.sls 97 = none := rfl
theorem nstr97 : T.strs.elem 97 = false := rfl
theorem nbyt97 : T.byts.elem 97 = false := rfl
theorem nint98 : lk? T.ints 98 = none := rfl
theorem nsls98 : lk? T.sls 98 = none := rfl
theorem nstr98 : T.strs.elem 98 = false := rfl
theorem nbyt98 : T.byts.elem 98 = false := rfl
theorem narr99 : lk? T.arrs 99 = none := rfl
theorem nint99 : lk? T.ints 99 = none := rfl
theorem nsls99 : lk? T.sls 99 = none := rfl
theorem nstr99 : T.strs.elem 99 = false := rfl
theorem nbyt99 : T.byts.elem 99 = false := rfl
theorem narr108 : lk? T.arrs 108 = none := rfl
theorem nsls108 : lk? T.sls 108 = none := rfl
theorem nstr108 : T.strs.elem 108 = false := rfl
theorem nbyt108 : T.byts.elem 108 = false := rfl
theorem narr110 : lk? T.arrs 110 = none := rfl
theorem nint110 : lk? T.ints 110 = none := rfl
theorem nsls110 : lk? T.sls 110 = none := rfl
theorem nstr110 : T.strs.elem 110 = false := rfl
theorem nbyt110 : T.byts.elem 110 = false := rfl
theorem narr111 : lk? T.arrs 111 = none := rfl
theorem nint111 : lk? T.ints 111 = none := rfl
theorem nstr111 : T.strs.elem 111 = false := rfl
theorem nbyt111 : T.byts.elem 111 = false := rfl
theorem narr113 : lk? T.arrs 113 = none := rfl
theorem nint113 : lk? T.ints 113 = none := rfl
theorem nsls113 : lk? T.sls 113 = none := rfl
theorem nstr113 : T.strs.elem 113 = false := rfl
theorem nbyt113 : T.byts.elem 113 = false := rfl
theorem narr114 : lk? T.arrs 114 = none := rfl
theorem nint114 : lk? T.ints 114 = none := rfl
theorem nsls114 : lk? T.sls 114 = none := rfl
theorem nstr114 : T.strs.elem 114 = false := rfl
theorem nbyt114 : T.byts.elem 114 = false := rfl
theorem narr117 : lk? T.arrs 117 = none := rfl
theorem nint117 : lk? T.ints 117 = none := rfl
theorem nsls117 : lk? T.sls 117 = none := rfl
theorem nstr117 : T.strs.elem 117 = false := rfl
theorem nbyt117 : T.byts.elem 117 = false := rfl
theorem narr118 : lk? T.arrs 118 = none := rfl
theorem nint118 : lk? T.ints 118 = none := rfl
theorem nsls118 : lk? T.sls 118 = none := rfl
theorem nstr118 : T.strs.elem 118 = false := rfl
theorem nbyt118 : T.byts.elem 118 = false := rfl
theorem narr120 : lk? T.arrs 120 = none := rfl
theorem nint120 : lk? T.ints 120 = none := rfl
theorem nsls120 : lk? T.sls 120 = none := rfl
theorem nstr120 : T.strs.elem 120 = false := rfl
theorem nbyt120 : T.byts.elem 120 = false := rfl
theorem narr126 : lk? T.arrs 126 = none := rfl
theorem nsls126 : lk? T.sls 126 = none := rfl
theorem nstr126 : T.strs.elem 126 = false := rfl
theorem nbyt126 : T.byts.elem 126 = false := rfl
theorem narr127 : lk? T.arrs 127 = none := rfl
theorem nint127 : lk? T.ints 127 = none := rfl
theorem nsls127 : lk? T.sls 127 = none := rfl
theorem nstr127 : T.strs.elem 127 = false := rfl
theorem nbyt127 : T.byts.elem 127 = false := rfl
theorem narr130 : lk? T.arrs 130 = none := rfl
theorem nint130 : lk? T.ints 130 = none := rfl
theorem nsls130 : lk? T.sls 130 = none := rfl
theorem nstr130 : T.strs.elem 130 = false := rfl
theorem nbyt130 : T.byts.elem 130 = false := rfl
theorem nint131 : lk? T.ints 131 = none := rfl
theorem nsls131 : lk? T.sls 131 = none := rfl
theorem nstr131 : T.strs.elem 131 = false := rfl
theorem nbyt131 : T.byts.elem 131 = false := rfl
theorem narr133 : lk? T.arrs 133 = none := rfl
theorem nint133 : lk? T.ints 133 = none := rfl
theorem nsls133 : lk? T.sls 133 = none := rfl
theorem nstr133 : T.strs.elem 133 = false := rfl
theorem nbyt133 : T.byts.elem 133 = false := rfl
theorem narr135 : lk? T.arrs 135 = none := rfl
theorem nint135 : lk? T.ints 135 = none := rfl
theorem nsls135 : lk? T.sls 135 = none := rfl
theorem nstr135 : T.strs.elem 135 = false := rfl
theorem nbyt135 : T.byts.elem 135 = false := rfl
theorem narr137 : lk? T.arrs 137 = none := rfl
theorem nint137 : lk? T.ints 137 = none := rfl
theorem nsls137 : lk? T.sls 137 = none := rfl
theorem nstr137 : T.strs.elem 137 = false := rfl
theorem nbyt137 : T.byts.elem 137 = false := rfl
theorem narr138 : lk? T.arrs 138 = none := rfl
theorem nint138 : lk? T.ints 138 = none := rfl
theorem nsls138 : lk? T.sls 138 = none := rfl
theorem nstr138 : T.strs.elem 138 = false := rfl
theorem nbyt138 : T.byts.elem 138 = false := rfl
theorem narr139 : lk? T.arrs 139 = none := rfl
theorem nint139 : lk? T.ints 139 = none := rfl
theorem nsls139 : lk? T.sls 139 = none := rfl
theorem nstr139 : T.strs.elem 139 = false := rfl
theorem nbyt139 : T.byts.elem 139 = false := rfl
theorem narr142 : lk? T.arrs 142 = none := rfl
theorem nint142 : lk? T.ints 142 = none := rfl
theorem nsls142 : lk? T.sls 142 = none := rfl
theorem nstr142 : T.strs.elem 142 = false := rfl
theorem nbyt142 : T.byts.elem 142 = false := rfl
theorem narr144 : lk? T.arrs 144 = none := rfl
theorem nint144 : lk? T.ints 144 = none := rfl
theorem nsls144 : lk? T.sls 144 = none := rfl
theorem nstr144 : T.strs.elem 144 = false := rfl
theorem nbyt144 : T.byts.elem 144 = false := rfl
theorem narr147 : lk? T.arrs 147 = none := rfl
theorem nint147 : lk? T.ints 147 = none := rfl
theorem nsls147 : lk? T.sls 147 = none := rfl
theorem nstr147 : T.strs.elem 147 = false := rfl
theorem nbyt147 : T.byts.elem 147 = false := rfl
theorem narr149 : lk? T.arrs 149 = none := rfl
theorem nint149 : lk? T.ints 149 = none := rfl
theorem nsls149 : lk? T.sls 149 = none := rfl
theorem nstr149 : T.strs.elem 149 = false := rfl
theorem nbyt149 : T.byts.elem 149 = false := rfl
theorem narr151 : lk? T.arrs 151 = none := rfl
theorem nint151 : lk? T.ints 151 = none := rfl
theorem nsls151 : lk? T.sls 151 = none := rfl
theorem nstr151 : T.strs.elem 151 = false := rfl
theorem nbyt151 : T.byts.elem 151 = false := rfl
theorem narr154 : lk? T.arrs 154 = none := rfl
theorem nsls154 : lk? T.sls 154 = none := rfl
theorem nstr154 : T.strs.elem 154 = false := rfl
theorem nbyt154 : T.byts.elem 154 = false := rfl
theorem narr155 : lk? T.arrs 155 = none := rfl
theorem nint155 : lk? T.ints 155 = none := rfl
theorem nsls155 : lk? T.sls 155 = none := rfl
theorem nstr155 : T.strs.elem 155 = false := rfl
theorem nbyt155 : T.byts.elem 155 = false := rfl
theorem narr162 : lk? T.arrs 162 = none := rfl
theorem nsls162 : lk? T.sls 162 = none := rfl
theorem nstr162 : T.strs.elem 162 = false := rfl
theorem nbyt162 : T.byts.elem 162 = false := rfl
theorem narr176 : lk? T.arrs 176 = none := rfl
theorem nint176 : lk? T.ints 176 = none := rfl
theorem nsls176 : lk? T.sls 176 = none := rfl
theorem nstr176 : T.strs.elem 176 = false := rfl
theorem nbyt176 : T.byts.elem 176 = false := rfl
theorem narr178 : lk? T.arrs 178 = none := rfl
theorem nsls178 : lk? T.sls 178 = none := rfl
theorem nstr178 : T.strs.elem 178 = false := rfl
theorem nbyt178 : T.byts.elem 178 = false := rfl
theorem narr196 : lk? T.arrs 196 = none := rfl
theorem nint196 : lk? T.ints 196 = none := rfl
theorem nsls196 : lk? T.sls 196 = none := rfl
theorem nstr196 : T.strs.elem 196 = false := rfl
theorem nbyt196 : T.byts.elem 196 = false := rfl
theorem narr197 : lk? T.arrs 197 = none := rfl
theorem nint197 : lk? T.ints 197 = none := rfl
theorem nsls197 : lk? T.sls 197 = none := rfl
theorem nstr197 : T.strs.elem 197 = false := rfl
theorem nbyt197 : T.byts.elem 197 = false := rfl
theorem mixed : Try.prog.follows .mixedOrders = true := by kernel_rfl
attribute [push_cast] pks96 pks118 pks196 keys92 zeros2 zeros3 zeros4 zeros5 zeros9 zeros22 zeros23 zeros26
attribute [push_cast] zeros29 zeros33 zeros35 zeros36 zeros39 zeros40 zeros42 zeros43 zeros44 zeros46 zeros48 zeros49
attribute [push_cast] zeros51 zeros54 zeros55 zeros57 zeros61 zeros63 zeros68 zeros74 zeros91 zeros92 zeros93 zeros95
attribute [push_cast] zeros96 zeros97 zeros98 zeros99 zeros108 zeros110 zeros111 zeros113 zeros114 zeros117 zeros118 zeros120
attribute [push_cast] zeros126 zeros130 zeros131 zeros133 zeros135 zeros137 zeros139 zeros142 zeros144 zeros147 zeros154 zeros162
attribute [push_cast] zeros178 zeros196 fszs33 fszs35 fszs42 fszs46 fszs49 fszs51 fszs55 fszs57 fszs61 fszs63
attribute [push_cast] fszs74 fszs91 fszs92 fszs93 fszs95 fszs97 fszs98 fszs120 fszs131 eqs33 eqs35 eqs61
attribute [push_cast] eqs63 eqs74 eqs91 eqs92 eqs93 eqs95 eqs131 sls22 sls23 sls29 sls36 sls39
attribute [push_cast] sls40 sls43 sls44 sls48 sls54 sls68 sls111 szs2 szs3 szs4 szs5 szs9
attribute [push_cast] szs22 szs23 szs26 szs29 szs33 szs35 szs36 szs39 szs40 szs42 szs43 szs44
attribute [push_cast] szs46 szs48 szs49 szs51 szs54 szs55 szs57 szs61 szs63 szs68 szs74 szs91
attribute [push_cast] szs92 szs93 szs95 szs96 szs97 szs98 szs99 szs108 szs110 szs111 szs113 szs114
attribute [push_cast] szs117 szs118 szs120 szs126 szs130 szs131 szs133 szs135 szs137 szs139 szs142 szs144
attribute [push_cast] szs147 szs154 szs162 szs178 szs196 fld33_0 fld33_1 fld33_2 fld35_0 fld35_1 fld42_0 fld42_1
attribute [push_cast] fld42_2 fld42_3 fld42_4 fld46_0 fld46_1 fld46_2 fld46_3 fld46_4 fld51_0 fld51_1 fld51_2 fld51_3
attribute [push_cast] fld57_0 fld57_1 fld57_2 fld57_3 fld61_0 fld61_1 fld61_2 fld61_3 fld63_0 fld63_1 fld74_0 fld74_1
attribute [push_cast] fld74_2 fld91_0 fld91_1 fld92_0 fld92_1 fld93_0 fld93_1 fld93_2 fld93_3 fld95_0 fld95_1 fld97_0
attribute [push_cast] fld97_1 fld120_0 fld120_1 ints2 ints3 ints5 ints26 ints108 ints126 ints154 ints162 ints178
attribute [push_cast] strs9 ptrs96 ptrs118 ptrs196 bools4 nptr4 arrs49 arrs55 arrs98 arrs131 byts36 maps99
attribute [push_cast] maps110 maps139 narr0 nint0 nsls0 nstr0 nbyt0 narr2 nsls2 nstr2 nbyt2 narr3
attribute [push_cast] nsls3 nstr3 nbyt3 narr4 nint4 nsls4 nstr4 nbyt4 narr5 nsls5 nstr5 nbyt5
attribute [push_cast] narr9 nint9 nsls9 nbyt9 narr22 nint22 nstr22 nbyt22 narr23 nint23 nstr23 nbyt23
attribute [push_cast] narr26 nsls26 nstr26 nbyt26 narr27 nint27 nsls27 nstr27 nbyt27 narr29 nint29 nstr29
attribute [push_cast] nbyt29 narr30 nint30 nsls30 nstr30 nbyt30 narr33 nint33 nsls33 nstr33 nbyt33 narr35
attribute [push_cast] nint35 nsls35 nstr35 nbyt35 narr36 nint36 nstr36 narr39 nint39 nstr39 nbyt39 narr40
attribute [push_cast] nint40 nstr40 nbyt40 narr42 nint42 nsls42 nstr42 nbyt42 narr43 nint43 nstr43 nbyt43
attribute [push_cast] narr44 nint44 nstr44 nbyt44 narr46 nint46 nsls46 nstr46 nbyt46 narr48 nint48 nstr48
attribute [push_cast] nbyt48 nint49 nsls49 nstr49 nbyt49 narr51 nint51 nsls51 nstr51 nbyt51 narr52 nint52
attribute [push_cast] nsls52 nstr52 nbyt52 narr54 nint54 nstr54 nbyt54 nint55 nsls55 nstr55 nbyt55 narr57
attribute [push_cast] nint57 nsls57 nstr57 nbyt57 narr61 nint61 nsls61 nstr61 nbyt61 narr63 nint63 nsls63
attribute [push_cast] nstr63 nbyt63 narr68 nint68 nstr68 nbyt68 narr69 nint69 nsls69 nstr69 nbyt69 narr74
attribute [push_cast] nint74 nsls74 nstr74 nbyt74 narr76 nint76 nsls76 nstr76 nbyt76 narr91 nint91 nsls91
attribute [push_cast] nstr91 nbyt91 narr92 nint92 nsls92 nstr92 nbyt92 narr93 nint93 nsls93 nstr93 nbyt93
attribute [push_cast] narr95 nint95 nsls95 nstr95 nbyt95 narr96 nint96 nsls96 nstr96 nbyt96 narr97 nint97
attribute [push_cast] nsls97 nstr97 nbyt97 nint98 nsls98 nstr98 nbyt98 narr99 nint99 nsls99 nstr99 nbyt99
attribute [push_cast] narr108 nsls108 nstr108 nbyt108 narr110 nint110 nsls110 nstr110 nbyt110 narr111 nint111 nstr111
attribute [push_cast] nbyt111 narr113 nint113 nsls113 nstr113 nbyt113 narr114 nint114 nsls114 nstr114 nbyt114 narr117
attribute [push_cast] nint117 nsls117 nstr117 nbyt117 narr118 nint118 nsls118 nstr118 nbyt118 narr120 nint120 nsls120
attribute [push_cast] nstr120 nbyt120 narr126 nsls126 nstr126 nbyt126 narr127 nint127 nsls127 nstr127 nbyt127 narr130
attribute [push_cast] nint130 nsls130 nstr130 nbyt130 nint131 nsls131 nstr131 nbyt131 narr133 nint133 nsls133 nstr133
attribute [push_cast] nbyt133 narr135 nint135 nsls135 nstr135 nbyt135 narr137 nint137 nsls137 nstr137 nbyt137 narr138
attribute [push_cast] nint138 nsls138 nstr138 nbyt138 narr139 nint139 nsls139 nstr139 nbyt139 narr142 nint142 nsls142
attribute [push_cast] nstr142 nbyt142 narr144 nint144 nsls144 nstr144 nbyt144 narr147 nint147 nsls147 nstr147 nbyt147
attribute [push_cast] narr149 nint149 nsls149 nstr149 nbyt149 narr151 nint151 nsls151 nstr151 nbyt151 narr154 nsls154
attribute [push_cast] nstr154 nbyt154 narr155 nint155 nsls155 nstr155 nbyt155 narr162 nsls162 nstr162 nbyt162 narr176
attribute [push_cast] nint176 nsls176 nstr176 nbyt176 narr178 nsls178 nstr178 nbyt178 narr196 nint196 nsls196 nstr196
attribute [push_cast] nbyt196 narr197 nint197 nsls197 nstr197 nbyt197
end Go.Proofs.Yticplbnnmajcpaa.Hv
