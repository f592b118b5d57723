/- The table of types that the walk over an abstract heap looks up. -/
import Derived.Test.YtjmafbdakalknaaDoorProg
import Derived.Test.YtjmafbdakalknaaDoorHvSet
namespace Go.Proofs.YtjmafbdakalknaaDoor.Hv
open Go Go.RowKit
def T : Tbl where
  sls := [(22, ⟨3, 1, 8, .int .i64 0⟩), (30, ⟨5, 1, 1, .int .u8 0⟩), (36, ⟨40, 7, 96, .agg #[.int .i64 0, .string ⟨#[]⟩, .string ⟨#[]⟩, .int .i64 0, .int .i64 0, .string ⟨#[]⟩, .slice none 0 0]⟩), (47, ⟨9, 1, 16, .string ⟨#[]⟩⟩), (48, ⟨4, 1, 1, .bool false⟩), (59, ⟨90, 2, 24, .agg #[.string ⟨#[]⟩, .int .i64 0]⟩), (60, ⟨92, 2, 24, .agg #[.string ⟨#[]⟩, .int .i64 0]⟩), (61, ⟨101, 4, 48, .agg #[.int .i64 0, .string ⟨#[]⟩, .string ⟨#[]⟩, .int .i64 0]⟩), (69, ⟨81, 1, 8, .nilFunc⟩)]
  szs := [(3, none), (4, none), (5, none), (9, none), (20, none), (21, none), (22, none), (24, none), (25, none), (30, none), (36, none), (37, none), (40, some 7), (47, none), (48, none), (53, some 4), (56, none), (59, none), (60, none), (61, none), (63, some 7), (64, none), (68, none), (69, none), (71, some 7), (72, none), (76, some 2), (78, none), (80, none), (81, none), (83, none), (84, none), (90, some 2), (92, some 2), (101, some 4), (105, none), (108, some 256), (112, none), (116, none), (123, none), (132, none), (135, none), (138, none), (140, some 256), (142, some 2), (143, some 32), (148, none)]
  flds := [(40, [(0, 0), (1, 1), (2, 2), (3, 3), (4, 4), (5, 5), (6, 6)]), (53, [(0, 0), (1, 1), (2, 2), (3, 3)]), (63, [(0, 0), (1, 1), (2, 2), (3, 3), (4, 4), (5, 5), (6, 6)]), (71, [(0, 0), (1, 1), (2, 2), (3, 3), (4, 4), (5, 5), (6, 6)]), (76, [(0, 0), (1, 1)]), (90, [(0, 0), (1, 1)]), (92, [(0, 0), (1, 1)]), (101, [(0, 0), (1, 1), (2, 2), (3, 3)]), (142, [(0, 0), (1, 1)])]
  ints := [(3, .i64), (5, .u8), (21, .i32), (25, .i64), (37, .u64), (116, .u64), (123, .i64), (132, .u32), (135, .u64)]
  strs := [9]
  zeros := [(3, .int .i64 0), (4, .bool false), (5, .int .u8 0), (9, .string ⟨#[]⟩), (21, .int .i32 0), (22, .slice none 0 0), (24, .pointer none), (25, .int .i64 0), (30, .slice none 0 0), (36, .slice none 0 0), (37, .int .u64 0), (40, .agg #[.int .i64 0, .string ⟨#[]⟩, .string ⟨#[]⟩, .int .i64 0, .int .i64 0, .string ⟨#[]⟩, .slice none 0 0]), (47, .slice none 0 0), (48, .slice none 0 0), (53, .agg #[.string ⟨#[]⟩, .string ⟨#[]⟩, .int .i64 0, .slice none 0 0]), (56, .pointer none), (59, .slice none 0 0), (60, .slice none 0 0), (61, .slice none 0 0), (63, .agg #[.slice none 0 0, .slice none 0 0, .slice none 0 0, .slice none 0 0, .int .i64 0, .bool false, .int .i64 0]), (64, .nilFunc), (68, .map none), (69, .slice none 0 0), (71, .agg #[.int .i64 0, .map none, .map none, .slice none 0 0, .bool false, .bool false, .int .i64 0]), (72, .pointer none), (76, .agg #[.slice none 0 0, .int .i64 0]), (78, .nilFunc), (80, .nilFunc), (81, .nilFunc), (83, .nilFunc), (84, .nilFunc), (90, .agg #[.string ⟨#[]⟩, .int .i64 0]), (92, .agg #[.string ⟨#[]⟩, .int .i64 0]), (101, .agg #[.int .i64 0, .string ⟨#[]⟩, .string ⟨#[]⟩, .int .i64 0]), (105, .pointer none), (108, .agg #[.bool false, .bool false, .bool false, .bool false, .bool false, .bool false, .bool false, .bool false, .bool false, .bool false, .bool false, .bool false, .bool false, .bool false, .bool false, .bool false, .bool false, .bool false, .bool false, .bool false, .bool false, .bool false, .bool false, .bool false, .bool false, .bool false, .bool false, .bool false, .bool false, .bool false, .bool false, .bool false, .bool false, .bool false, .bool false, .bool false, .bool false, .bool false, .bool false, .bool false, .bool false, .bool false, .bool false, .bool false, .bool false, .bool false, .bool false, .bool false, .bool false, .bool false, .bool false, .bool false, .bool false, .bool false, .bool false, .bool false, .bool false, .bool false, .bool false, .bool false, .bool false, .bool false, .bool false, .bool false, .bool false, .bool false, .bool false, .bool false, .bool false, .bool false, .bool false, .bool false, .bool false, .bool false, .bool false, .bool false, .bool false, .bool false, .bool false, .bool false, .bool false, .bool false, .bool false, .bool false, .bool false, .bool false, .bool false, .bool false, .bool false, .bool false, .bool false, .bool false, .bool false, .bool false, .bool false, .bool false, .bool false, .bool false, .bool false, .bool false, .bool false, .bool false, .bool false, .bool false, .bool false, .bool false, .bool false, .bool false, .bool false, .bool false, .bool false, .bool false, .bool false, .bool false, .bool false, .bool false, .bool false, .bool false, .bool false, .bool false, .bool false, .bool false, .bool false, .bool false, .bool false, .bool false, .bool false, .bool false, .bool false, .bool false, .bool false, .bool false, .bool false, .bool false, .bool false, .bool false, .bool false, .bool false, .bool false, .bool false, .bool false, .bool false, .bool false, .bool false, .bool false, .bool false, .bool false, .bool false, .bool false, .bool false, .bool false, .bool false, .bool false, .bool false, .bool false, .bool false, .bool false, .bool false, .bool false, .bool false, .bool false, .bool false, .bool false, .bool false, .bool false, .bool false, .bool false, .bool false, .bool false, .bool false, .bool false, .bool false, .bool false, .bool false, .bool false, .bool false, .bool false, .bool false, .bool false, .bool false, .bool false, .bool false, .bool false, .bool false, .bool false, .bool false, .bool false, .bool false, .bool false, .bool false, .bool false, .bool false, .bool false, .bool false, .bool false, .bool false, .bool false, .bool false, .bool false, .bool false, .bool false, .bool false, .bool false, .bool false, .bool false, .bool false, .bool false, .bool false, .bool false, .bool false, .bool false, .bool false, .bool false, .bool false, .bool false, .bool false, .bool false, .bool false, .bool false, .bool false, .bool false, .bool false, .bool false, .bool false, .bool false, .bool false, .bool false, .bool false, .bool false, .bool false, .bool false, .bool false, .bool false, .bool false, .bool false, .bool false, .bool false, .bool false, .bool false, .bool false, .bool false, .bool false, .bool false, .bool false, .bool false, .bool false, .bool false, .bool false, .bool false, .bool false, .bool false, .bool false, .bool false, .bool false, .bool false, .bool false]), (112, .pointer none), (116, .int .u64 0), (123, .int .i64 0), (132, .int .u32 0), (135, .int .u64 0), (138, .pointer none), (140, .agg #[.int .u8 0, .int .u8 0, .int .u8 0, .int .u8 0, .int .u8 0, .int .u8 0, .int .u8 0, .int .u8 0, .int .u8 0, .int .u8 0, .int .u8 0, .int .u8 0, .int .u8 0, .int .u8 0, .int .u8 0, .int .u8 0, .int .u8 0, .int .u8 0, .int .u8 0, .int .u8 0, .int .u8 0, .int .u8 0, .int .u8 0, .int .u8 0, .int .u8 0, .int .u8 0, .int .u8 0, .int .u8 0, .int .u8 0, .int .u8 0, .int .u8 0, .int .u8 0, .int .u8 0, .int .u8 0, .int .u8 0, .int .u8 0, .int .u8 0, .int .u8 0, .int .u8 0, .int .u8 0, .int .u8 0, .int .u8 0, .int .u8 0, .int .u8 0, .int .u8 0, .int .u8 0, .int .u8 0, .int .u8 0, .int .u8 0, .int .u8 0, .int .u8 0, .int .u8 0, .int .u8 0, .int .u8 0, .int .u8 0, .int .u8 0, .int .u8 0, .int .u8 0, .int .u8 0, .int .u8 0, .int .u8 0, .int .u8 0, .int .u8 0, .int .u8 0, .int .u8 0, .int .u8 0, .int .u8 0, .int .u8 0, .int .u8 0, .int .u8 0, .int .u8 0, .int .u8 0, .int .u8 0, .int .u8 0, .int .u8 0, .int .u8 0, .int .u8 0, .int .u8 0, .int .u8 0, .int .u8 0, .int .u8 0, .int .u8 0, .int .u8 0, .int .u8 0, .int .u8 0, .int .u8 0, .int .u8 0, .int .u8 0, .int .u8 0, .int .u8 0, .int .u8 0, .int .u8 0, .int .u8 0, .int .u8 0, .int .u8 0, .int .u8 0, .int .u8 0, .int .u8 0, .int .u8 0, .int .u8 0, .int .u8 0, .int .u8 0, .int .u8 0, .int .u8 0, .int .u8 0, .int .u8 0, .int .u8 0, .int .u8 0, .int .u8 0, .int .u8 0, .int .u8 0, .int .u8 0, .int .u8 0, .int .u8 0, .int .u8 0, .int .u8 0, .int .u8 0, .int .u8 0, .int .u8 0, .int .u8 0, .int .u8 0, .int .u8 0, .int .u8 0, .int .u8 0, .int .u8 0, .int .u8 0, .int .u8 0, .int .u8 0, .int .u8 0, .int .u8 0, .int .u8 0, .int .u8 0, .int .u8 0, .int .u8 0, .int .u8 0, .int .u8 0, .int .u8 0, .int .u8 0, .int .u8 0, .int .u8 0, .int .u8 0, .int .u8 0, .int .u8 0, .int .u8 0, .int .u8 0, .int .u8 0, .int .u8 0, .int .u8 0, .int .u8 0, .int .u8 0, .int .u8 0, .int .u8 0, .int .u8 0, .int .u8 0, .int .u8 0, .int .u8 0, .int .u8 0, .int .u8 0, .int .u8 0, .int .u8 0, .int .u8 0, .int .u8 0, .int .u8 0, .int .u8 0, .int .u8 0, .int .u8 0, .int .u8 0, .int .u8 0, .int .u8 0, .int .u8 0, .int .u8 0, .int .u8 0, .int .u8 0, .int .u8 0, .int .u8 0, .int .u8 0, .int .u8 0, .int .u8 0, .int .u8 0, .int .u8 0, .int .u8 0, .int .u8 0, .int .u8 0, .int .u8 0, .int .u8 0, .int .u8 0, .int .u8 0, .int .u8 0, .int .u8 0, .int .u8 0, .int .u8 0, .int .u8 0, .int .u8 0, .int .u8 0, .int .u8 0, .int .u8 0, .int .u8 0, .int .u8 0, .int .u8 0, .int .u8 0, .int .u8 0, .int .u8 0, .int .u8 0, .int .u8 0, .int .u8 0, .int .u8 0, .int .u8 0, .int .u8 0, .int .u8 0, .int .u8 0, .int .u8 0, .int .u8 0, .int .u8 0, .int .u8 0, .int .u8 0, .int .u8 0, .int .u8 0, .int .u8 0, .int .u8 0, .int .u8 0, .int .u8 0, .int .u8 0, .int .u8 0, .int .u8 0, .int .u8 0, .int .u8 0, .int .u8 0, .int .u8 0, .int .u8 0, .int .u8 0, .int .u8 0, .int .u8 0, .int .u8 0, .int .u8 0, .int .u8 0, .int .u8 0, .int .u8 0, .int .u8 0, .int .u8 0, .int .u8 0, .int .u8 0, .int .u8 0, .int .u8 0, .int .u8 0, .int .u8 0, .int .u8 0, .int .u8 0, .int .u8 0, .int .u8 0, .int .u8 0, .int .u8 0, .int .u8 0, .int .u8 0, .int .u8 0, .int .u8 0, .int .u8 0]), (142, .agg #[.int .u8 0, .int .u8 0]), (143, .agg #[.int .u8 0, .int .u8 0, .int .u8 0, .int .u8 0, .int .u8 0, .int .u8 0, .int .u8 0, .int .u8 0, .int .u8 0, .int .u8 0, .int .u8 0, .int .u8 0, .int .u8 0, .int .u8 0, .int .u8 0, .int .u8 0, .int .u8 0, .int .u8 0, .int .u8 0, .int .u8 0, .int .u8 0, .int .u8 0, .int .u8 0, .int .u8 0, .int .u8 0, .int .u8 0, .int .u8 0, .int .u8 0, .int .u8 0, .int .u8 0, .int .u8 0, .int .u8 0]), (148, .pointer none)]
  fszs := [(40, [(0, 1), (1, 1), (2, 1), (3, 1), (4, 1), (5, 1), (6, 1)]), (53, [(0, 1), (1, 1), (2, 1), (3, 1)]), (63, [(0, 1), (1, 1), (2, 1), (3, 1), (4, 1), (5, 1), (6, 1)]), (71, [(0, 1), (1, 1), (2, 1), (3, 1), (4, 1), (5, 1), (6, 1)]), (76, [(0, 1), (1, 1)]), (90, [(0, 1), (1, 1)]), (92, [(0, 1), (1, 1)]), (101, [(0, 1), (1, 1), (2, 1), (3, 1)]), (142, [(0, 1), (1, 1)]), (143, [(0, 2), (2, 2), (4, 2), (6, 2), (8, 2), (10, 2), (12, 2), (14, 2), (16, 2), (18, 2), (20, 2), (22, 2), (24, 2), (26, 2), (28, 2), (30, 2)])]
  eqs := [(90, (eqFl [.str, .int .i64])), (92, (eqFl [.str, .int .i64])), (101, (eqFl [.int .i64, .str, .str, .int .i64])), (142, (eqFl [.int .u8, .int .u8])), (143, (eqFl [.int .u8, .int .u8, .int .u8, .int .u8, .int .u8, .int .u8, .int .u8, .int .u8, .int .u8, .int .u8, .int .u8, .int .u8, .int .u8, .int .u8, .int .u8, .int .u8, .int .u8, .int .u8, .int .u8, .int .u8, .int .u8, .int .u8, .int .u8, .int .u8, .int .u8, .int .u8, .int .u8, .int .u8, .int .u8, .int .u8, .int .u8, .int .u8]))]
  ptrs := [24, 56, 72, 105, 112, 138, 148]
  bools := [4]
  arrs := [(108, 256, 4, 1), (140, 256, 5, 1), (143, 16, 142, 2)]
  byts := [30]
  maps := [(68, ⟨9, 72, .pointer none⟩)]
  keys := []
set_option maxRecDepth 20000 in
theorem TOk : T.Ok Tryd.prog where
  sls := List.forall_mem_cons.2 ⟨ElemT.mk' (by kernel_rfl) (by kernel_rfl) rfl (by decide) (by decide), List.forall_mem_cons.2 ⟨ElemT.mk' (by kernel_rfl) (by kernel_rfl) rfl (by decide) (by decide), List.forall_mem_cons.2 ⟨ElemT.mk' (by kernel_rfl) (by kernel_rfl) rfl (by decide) (by decide), List.forall_mem_cons.2 ⟨ElemT.mk' (by kernel_rfl) (by kernel_rfl) rfl (by decide) (by decide), List.forall_mem_cons.2 ⟨ElemT.mk' (by kernel_rfl) (by kernel_rfl) rfl (by decide) (by decide), List.forall_mem_cons.2 ⟨ElemT.mk' (by kernel_rfl) (by kernel_rfl) rfl (by decide) (by decide), List.forall_mem_cons.2 ⟨ElemT.mk' (by kernel_rfl) (by kernel_rfl) rfl (by decide) (by decide), List.forall_mem_cons.2 ⟨ElemT.mk' (by kernel_rfl) (by kernel_rfl) rfl (by decide) (by decide), List.forall_mem_cons.2 ⟨ElemT.mk' (by kernel_rfl) (by kernel_rfl) rfl (by decide) (by decide), fun _ h => absurd h List.not_mem_nil⟩⟩⟩⟩⟩⟩⟩⟩⟩
  szs := List.forall_mem_cons.2 ⟨⟨by kernel_rfl, by kernel_rfl⟩, List.forall_mem_cons.2 ⟨⟨by kernel_rfl, by kernel_rfl⟩, List.forall_mem_cons.2 ⟨⟨by kernel_rfl, by kernel_rfl⟩, List.forall_mem_cons.2 ⟨⟨by kernel_rfl, by kernel_rfl⟩, List.forall_mem_cons.2 ⟨⟨by kernel_rfl, by kernel_rfl⟩, List.forall_mem_cons.2 ⟨⟨by kernel_rfl, by kernel_rfl⟩, List.forall_mem_cons.2 ⟨⟨by kernel_rfl, by kernel_rfl⟩, List.forall_mem_cons.2 ⟨⟨by kernel_rfl, by kernel_rfl⟩, List.forall_mem_cons.2 ⟨⟨by kernel_rfl, by kernel_rfl⟩, List.forall_mem_cons.2 ⟨⟨by kernel_rfl, by kernel_rfl⟩, List.forall_mem_cons.2 ⟨⟨by kernel_rfl, by kernel_rfl⟩, List.forall_mem_cons.2 ⟨⟨by kernel_rfl, by kernel_rfl⟩, List.forall_mem_cons.2 ⟨⟨by kernel_rfl, by kernel_rfl⟩, List.forall_mem_cons.2 ⟨⟨by kernel_rfl, by kernel_rfl⟩, List.forall_mem_cons.2 ⟨⟨by kernel_rfl, by kernel_rfl⟩, List.forall_mem_cons.2 ⟨⟨by kernel_rfl, by kernel_rfl⟩, List.forall_mem_cons.2 ⟨⟨by kernel_rfl, by kernel_rfl⟩, List.forall_mem_cons.2 ⟨⟨by kernel_rfl, by kernel_rfl⟩, List.forall_mem_cons.2 ⟨⟨by kernel_rfl, by kernel_rfl⟩, List.forall_mem_cons.2 ⟨⟨by kernel_rfl, by kernel_rfl⟩, List.forall_mem_cons.2 ⟨⟨by kernel_rfl, by kernel_rfl⟩, List.forall_mem_cons.2 ⟨⟨by kernel_rfl, by kernel_rfl⟩, List.forall_mem_cons.2 ⟨⟨by kernel_rfl, by kernel_rfl⟩, List.forall_mem_cons.2 ⟨⟨by kernel_rfl, by kernel_rfl⟩, List.forall_mem_cons.2 ⟨⟨by kernel_rfl, by kernel_rfl⟩, List.forall_mem_cons.2 ⟨⟨by kernel_rfl, by kernel_rfl⟩, List.forall_mem_cons.2 ⟨⟨by kernel_rfl, by kernel_rfl⟩, List.forall_mem_cons.2 ⟨⟨by kernel_rfl, by kernel_rfl⟩, List.forall_mem_cons.2 ⟨⟨by kernel_rfl, by kernel_rfl⟩, List.forall_mem_cons.2 ⟨⟨by kernel_rfl, by kernel_rfl⟩, List.forall_mem_cons.2 ⟨⟨by kernel_rfl, by kernel_rfl⟩, List.forall_mem_cons.2 ⟨⟨by kernel_rfl, by kernel_rfl⟩, List.forall_mem_cons.2 ⟨⟨by kernel_rfl, by kernel_rfl⟩, List.forall_mem_cons.2 ⟨⟨by kernel_rfl, by kernel_rfl⟩, List.forall_mem_cons.2 ⟨⟨by kernel_rfl, by kernel_rfl⟩, List.forall_mem_cons.2 ⟨⟨by kernel_rfl, by kernel_rfl⟩, List.forall_mem_cons.2 ⟨⟨by kernel_rfl, by kernel_rfl⟩, List.forall_mem_cons.2 ⟨⟨by kernel_rfl, by kernel_rfl⟩, List.forall_mem_cons.2 ⟨⟨by kernel_rfl, by kernel_rfl⟩, List.forall_mem_cons.2 ⟨⟨by kernel_rfl, by kernel_rfl⟩, List.forall_mem_cons.2 ⟨⟨by kernel_rfl, by kernel_rfl⟩, List.forall_mem_cons.2 ⟨⟨by kernel_rfl, by kernel_rfl⟩, List.forall_mem_cons.2 ⟨⟨by kernel_rfl, by kernel_rfl⟩, List.forall_mem_cons.2 ⟨⟨by kernel_rfl, by kernel_rfl⟩, List.forall_mem_cons.2 ⟨⟨by kernel_rfl, by kernel_rfl⟩, List.forall_mem_cons.2 ⟨⟨by kernel_rfl, by kernel_rfl⟩, List.forall_mem_cons.2 ⟨⟨by kernel_rfl, by kernel_rfl⟩, fun _ h => absurd h List.not_mem_nil⟩⟩⟩⟩⟩⟩⟩⟩⟩⟩⟩⟩⟩⟩⟩⟩⟩⟩⟩⟩⟩⟩⟩⟩⟩⟩⟩⟩⟩⟩⟩⟩⟩⟩⟩⟩⟩⟩⟩⟩⟩⟩⟩⟩⟩⟩⟩
  flds := List.forall_mem_cons.2 ⟨(List.forall_mem_cons.2 ⟨by kernel_rfl, List.forall_mem_cons.2 ⟨by kernel_rfl, List.forall_mem_cons.2 ⟨by kernel_rfl, List.forall_mem_cons.2 ⟨by kernel_rfl, List.forall_mem_cons.2 ⟨by kernel_rfl, List.forall_mem_cons.2 ⟨by kernel_rfl, List.forall_mem_cons.2 ⟨by kernel_rfl, fun _ h => absurd h List.not_mem_nil⟩⟩⟩⟩⟩⟩⟩), List.forall_mem_cons.2 ⟨(List.forall_mem_cons.2 ⟨by kernel_rfl, List.forall_mem_cons.2 ⟨by kernel_rfl, List.forall_mem_cons.2 ⟨by kernel_rfl, List.forall_mem_cons.2 ⟨by kernel_rfl, fun _ h => absurd h List.not_mem_nil⟩⟩⟩⟩), List.forall_mem_cons.2 ⟨(List.forall_mem_cons.2 ⟨by kernel_rfl, List.forall_mem_cons.2 ⟨by kernel_rfl, List.forall_mem_cons.2 ⟨by kernel_rfl, List.forall_mem_cons.2 ⟨by kernel_rfl, List.forall_mem_cons.2 ⟨by kernel_rfl, List.forall_mem_cons.2 ⟨by kernel_rfl, List.forall_mem_cons.2 ⟨by kernel_rfl, fun _ h => absurd h List.not_mem_nil⟩⟩⟩⟩⟩⟩⟩), List.forall_mem_cons.2 ⟨(List.forall_mem_cons.2 ⟨by kernel_rfl, List.forall_mem_cons.2 ⟨by kernel_rfl, List.forall_mem_cons.2 ⟨by kernel_rfl, List.forall_mem_cons.2 ⟨by kernel_rfl, List.forall_mem_cons.2 ⟨by kernel_rfl, List.forall_mem_cons.2 ⟨by kernel_rfl, List.forall_mem_cons.2 ⟨by kernel_rfl, fun _ h => absurd h List.not_mem_nil⟩⟩⟩⟩⟩⟩⟩), List.forall_mem_cons.2 ⟨(List.forall_mem_cons.2 ⟨by kernel_rfl, List.forall_mem_cons.2 ⟨by kernel_rfl, fun _ h => absurd h List.not_mem_nil⟩⟩), List.forall_mem_cons.2 ⟨(List.forall_mem_cons.2 ⟨by kernel_rfl, List.forall_mem_cons.2 ⟨by kernel_rfl, fun _ h => absurd h List.not_mem_nil⟩⟩), List.forall_mem_cons.2 ⟨(List.forall_mem_cons.2 ⟨by kernel_rfl, List.forall_mem_cons.2 ⟨by kernel_rfl, fun _ h => absurd h List.not_mem_nil⟩⟩), List.forall_mem_cons.2 ⟨(List.forall_mem_cons.2 ⟨by kernel_rfl, List.forall_mem_cons.2 ⟨by kernel_rfl, List.forall_mem_cons.2 ⟨by kernel_rfl, List.forall_mem_cons.2 ⟨by kernel_rfl, fun _ h => absurd h List.not_mem_nil⟩⟩⟩⟩), List.forall_mem_cons.2 ⟨(List.forall_mem_cons.2 ⟨by kernel_rfl, List.forall_mem_cons.2 ⟨by kernel_rfl, fun _ h => absurd h List.not_mem_nil⟩⟩), fun _ h => absurd h List.not_mem_nil⟩⟩⟩⟩⟩⟩⟩⟩⟩
  ints := List.forall_mem_cons.2 ⟨by kernel_rfl, List.forall_mem_cons.2 ⟨by kernel_rfl, List.forall_mem_cons.2 ⟨by kernel_rfl, List.forall_mem_cons.2 ⟨by kernel_rfl, List.forall_mem_cons.2 ⟨by kernel_rfl, List.forall_mem_cons.2 ⟨by kernel_rfl, List.forall_mem_cons.2 ⟨by kernel_rfl, List.forall_mem_cons.2 ⟨by kernel_rfl, List.forall_mem_cons.2 ⟨by kernel_rfl, fun _ h => absurd h List.not_mem_nil⟩⟩⟩⟩⟩⟩⟩⟩⟩
  strs := List.forall_mem_cons.2 ⟨by kernel_rfl, fun _ h => absurd h List.not_mem_nil⟩
  zeros := List.forall_mem_cons.2 ⟨by unfold okZero; kernel_rfl, List.forall_mem_cons.2 ⟨by unfold okZero; kernel_rfl, List.forall_mem_cons.2 ⟨by unfold okZero; kernel_rfl, List.forall_mem_cons.2 ⟨by unfold okZero; kernel_rfl, List.forall_mem_cons.2 ⟨by unfold okZero; kernel_rfl, List.forall_mem_cons.2 ⟨by unfold okZero; kernel_rfl, List.forall_mem_cons.2 ⟨by unfold okZero; kernel_rfl, List.forall_mem_cons.2 ⟨by unfold okZero; kernel_rfl, List.forall_mem_cons.2 ⟨by unfold okZero; kernel_rfl, List.forall_mem_cons.2 ⟨by unfold okZero; kernel_rfl, List.forall_mem_cons.2 ⟨by unfold okZero; kernel_rfl, List.forall_mem_cons.2 ⟨by unfold okZero; kernel_rfl, List.forall_mem_cons.2 ⟨by unfold okZero; kernel_rfl, List.forall_mem_cons.2 ⟨by unfold okZero; kernel_rfl, List.forall_mem_cons.2 ⟨by unfold okZero; kernel_rfl, List.forall_mem_cons.2 ⟨by unfold okZero; kernel_rfl, List.forall_mem_cons.2 ⟨by unfold okZero; kernel_rfl, List.forall_mem_cons.2 ⟨by unfold okZero; kernel_rfl, List.forall_mem_cons.2 ⟨by unfold okZero; kernel_rfl, List.forall_mem_cons.2 ⟨by unfold okZero; kernel_rfl, List.forall_mem_cons.2 ⟨by unfold okZero; kernel_rfl, List.forall_mem_cons.2 ⟨by unfold okZero; kernel_rfl, List.forall_mem_cons.2 ⟨by unfold okZero; kernel_rfl, List.forall_mem_cons.2 ⟨by unfold okZero; kernel_rfl, List.forall_mem_cons.2 ⟨by unfold okZero; kernel_rfl, List.forall_mem_cons.2 ⟨by unfold okZero; kernel_rfl, List.forall_mem_cons.2 ⟨by unfold okZero; kernel_rfl, List.forall_mem_cons.2 ⟨by unfold okZero; kernel_rfl, List.forall_mem_cons.2 ⟨by unfold okZero; kernel_rfl, List.forall_mem_cons.2 ⟨by unfold okZero; kernel_rfl, List.forall_mem_cons.2 ⟨by unfold okZero; kernel_rfl, List.forall_mem_cons.2 ⟨by unfold okZero; kernel_rfl, List.forall_mem_cons.2 ⟨by unfold okZero; kernel_rfl, List.forall_mem_cons.2 ⟨by unfold okZero; kernel_rfl, List.forall_mem_cons.2 ⟨by unfold okZero; kernel_rfl, List.forall_mem_cons.2 ⟨by unfold okZero; kernel_rfl, List.forall_mem_cons.2 ⟨by unfold okZero; kernel_rfl, List.forall_mem_cons.2 ⟨by unfold okZero; kernel_rfl, List.forall_mem_cons.2 ⟨by unfold okZero; kernel_rfl, List.forall_mem_cons.2 ⟨by unfold okZero; kernel_rfl, List.forall_mem_cons.2 ⟨by unfold okZero; kernel_rfl, List.forall_mem_cons.2 ⟨by unfold okZero; kernel_rfl, List.forall_mem_cons.2 ⟨by unfold okZero; kernel_rfl, List.forall_mem_cons.2 ⟨by unfold okZero; kernel_rfl, List.forall_mem_cons.2 ⟨by unfold okZero; kernel_rfl, List.forall_mem_cons.2 ⟨by unfold okZero; kernel_rfl, fun _ h => absurd h List.not_mem_nil⟩⟩⟩⟩⟩⟩⟩⟩⟩⟩⟩⟩⟩⟩⟩⟩⟩⟩⟩⟩⟩⟩⟩⟩⟩⟩⟩⟩⟩⟩⟩⟩⟩⟩⟩⟩⟩⟩⟩⟩⟩⟩⟩⟩⟩⟩
  fszs := List.forall_mem_cons.2 ⟨by unfold okFsz; kernel_rfl, List.forall_mem_cons.2 ⟨by unfold okFsz; kernel_rfl, List.forall_mem_cons.2 ⟨by unfold okFsz; kernel_rfl, List.forall_mem_cons.2 ⟨by unfold okFsz; kernel_rfl, List.forall_mem_cons.2 ⟨by unfold okFsz; kernel_rfl, List.forall_mem_cons.2 ⟨by unfold okFsz; kernel_rfl, List.forall_mem_cons.2 ⟨by unfold okFsz; kernel_rfl, List.forall_mem_cons.2 ⟨by unfold okFsz; kernel_rfl, List.forall_mem_cons.2 ⟨by unfold okFsz; kernel_rfl, List.forall_mem_cons.2 ⟨by unfold okFsz; kernel_rfl, fun _ h => absurd h List.not_mem_nil⟩⟩⟩⟩⟩⟩⟩⟩⟩⟩
  eqs := List.forall_mem_cons.2 ⟨okEq_flat ⟨by kernel_rfl, by kernel_rfl⟩ (by kernel_rfl), List.forall_mem_cons.2 ⟨okEq_flat ⟨by kernel_rfl, by kernel_rfl⟩ (by kernel_rfl), List.forall_mem_cons.2 ⟨okEq_flat ⟨by kernel_rfl, by kernel_rfl⟩ (by kernel_rfl), List.forall_mem_cons.2 ⟨okEq_flat ⟨by kernel_rfl, by kernel_rfl⟩ (by kernel_rfl), List.forall_mem_cons.2 ⟨okEq_flat ⟨by kernel_rfl, by kernel_rfl⟩ (by kernel_rfl), fun _ h => absurd h List.not_mem_nil⟩⟩⟩⟩⟩
  ptrs := List.forall_mem_cons.2 ⟨by unfold okPtr; kernel_rfl, List.forall_mem_cons.2 ⟨by unfold okPtr; kernel_rfl, List.forall_mem_cons.2 ⟨by unfold okPtr; kernel_rfl, List.forall_mem_cons.2 ⟨by unfold okPtr; kernel_rfl, List.forall_mem_cons.2 ⟨by unfold okPtr; kernel_rfl, List.forall_mem_cons.2 ⟨by unfold okPtr; kernel_rfl, List.forall_mem_cons.2 ⟨by unfold okPtr; kernel_rfl, fun _ h => absurd h List.not_mem_nil⟩⟩⟩⟩⟩⟩⟩
  bools := List.forall_mem_cons.2 ⟨by kernel_rfl, fun _ h => absurd h List.not_mem_nil⟩
  arrs := List.forall_mem_cons.2 ⟨⟨by kernel_rfl, by kernel_rfl⟩, List.forall_mem_cons.2 ⟨⟨by kernel_rfl, by kernel_rfl⟩, List.forall_mem_cons.2 ⟨⟨by kernel_rfl, by kernel_rfl⟩, fun _ h => absurd h List.not_mem_nil⟩⟩⟩
  byts := List.forall_mem_cons.2 ⟨⟨5, by kernel_rfl, by kernel_rfl, by kernel_rfl⟩, fun _ h => absurd h List.not_mem_nil⟩
  maps := List.forall_mem_cons.2 ⟨⟨by kernel_rfl, by kernel_rfl⟩, fun _ h => absurd h List.not_mem_nil⟩
  keys := fun _ h => absurd h List.not_mem_nil
theorem zeros3 : lk? T.zeros 3 = some (.int .i64 0) := rfl
theorem zeros4 : lk? T.zeros 4 = some (.bool false) := rfl
theorem zeros5 : lk? T.zeros 5 = some (.int .u8 0) := rfl
theorem zeros9 : lk? T.zeros 9 = some (.string ⟨#[]⟩) := rfl
theorem zeros21 : lk? T.zeros 21 = some (.int .i32 0) := rfl
theorem zeros22 : lk? T.zeros 22 = some (.slice none 0 0) := rfl
theorem zeros24 : lk? T.zeros 24 = some (.pointer none) := rfl
theorem zeros25 : lk? T.zeros 25 = some (.int .i64 0) := rfl
theorem zeros30 : lk? T.zeros 30 = some (.slice none 0 0) := rfl
theorem zeros36 : lk? T.zeros 36 = some (.slice none 0 0) := rfl
theorem zeros37 : lk? T.zeros 37 = some (.int .u64 0) := rfl
theorem zeros40 : lk? T.zeros 40 = some (.agg #[.int .i64 0, .string ⟨#[]⟩, .string ⟨#[]⟩, .int .i64 0, .int .i64 0, .string ⟨#[]⟩, .slice none 0 0]) := rfl
theorem zeros47 : lk? T.zeros 47 = some (.slice none 0 0) := rfl
theorem zeros48 : lk? T.zeros 48 = some (.slice none 0 0) := rfl
theorem zeros53 : lk? T.zeros 53 = some (.agg #[.string ⟨#[]⟩, .string ⟨#[]⟩, .int .i64 0, .slice none 0 0]) := rfl
theorem zeros56 : lk? T.zeros 56 = some (.pointer none) := rfl
theorem zeros59 : lk? T.zeros 59 = some (.slice none 0 0) := rfl
theorem zeros60 : lk? T.zeros 60 = some (.slice none 0 0) := rfl
theorem zeros61 : lk? T.zeros 61 = some (.slice none 0 0) := rfl
theorem zeros63 : lk? T.zeros 63 = some (.agg #[.slice none 0 0, .slice none 0 0, .slice none 0 0, .slice none 0 0, .int .i64 0, .bool false, .int .i64 0]) := rfl
theorem zeros64 : lk? T.zeros 64 = some (.nilFunc) := rfl
theorem zeros68 : lk? T.zeros 68 = some (.map none) := rfl
theorem zeros69 : lk? T.zeros 69 = some (.slice none 0 0) := rfl
theorem zeros71 : lk? T.zeros 71 = some (.agg #[.int .i64 0, .map none, .map none, .slice none 0 0, .bool false, .bool false, .int .i64 0]) := rfl
theorem zeros72 : lk? T.zeros 72 = some (.pointer none) := rfl
theorem zeros76 : lk? T.zeros 76 = some (.agg #[.slice none 0 0, .int .i64 0]) := rfl
theorem zeros78 : lk? T.zeros 78 = some (.nilFunc) := rfl
theorem zeros80 : lk? T.zeros 80 = some (.nilFunc) := rfl
theorem zeros81 : lk? T.zeros 81 = some (.nilFunc) := rfl
theorem zeros83 : lk? T.zeros 83 = some (.nilFunc) := rfl
theorem zeros84 : lk? T.zeros 84 = some (.nilFunc) := rfl
theorem zeros90 : lk? T.zeros 90 = some (.agg #[.string ⟨#[]⟩, .int .i64 0]) := rfl
theorem zeros92 : lk? T.zeros 92 = some (.agg #[.string ⟨#[]⟩, .int .i64 0]) := rfl
theorem zeros101 : lk? T.zeros 101 = some (.agg #[.int .i64 0, .string ⟨#[]⟩, .string ⟨#[]⟩, .int .i64 0]) := rfl
theorem zeros105 : lk? T.zeros 105 = some (.pointer none) := rfl
theorem zeros108 : lk? T.zeros 108 = some (.agg #[.bool false, .bool false, .bool false, .bool false, .bool false, .bool false, .bool false, .bool false, .bool false, .bool false, .bool false, .bool false, .bool false, .bool false, .bool false, .bool false, .bool false, .bool false, .bool false, .bool false, .bool false, .bool false, .bool false, .bool false, .bool false, .bool false, .bool false, .bool false, .bool false, .bool false, .bool false, .bool false, .bool false, .bool false, .bool false, .bool false, .bool false, .bool false, .bool false, .bool false, .bool false, .bool false, .bool false, .bool false, .bool false, .bool false, .bool false, .bool false, .bool false, .bool false, .bool false, .bool false, .bool false, .bool false, .bool false, .bool false, .bool false, .bool false, .bool false, .bool false, .bool false, .bool false, .bool false, .bool false, .bool false, .bool false, .bool false, .bool false, .bool false, .bool false, .bool false, .bool false, .bool false, .bool false, .bool false, .bool false, .bool false, .bool false, .bool false, .bool false, .bool false, .bool false, .bool false, .bool false, .bool false, .bool false, .bool false, .bool false, .bool false, .bool false, .bool false, .bool false, .bool false, .bool false, .bool false, .bool false, .bool false, .bool false, .bool false, .bool false, .bool false, .bool false, .bool false, .bool false, .bool false, .bool false, .bool false, .bool false, .bool false, .bool false, .bool false, .bool false, .bool false, .bool false, .bool false, .bool false, .bool false, .bool false, .bool false, .bool false, .bool false, .bool false, .bool false, .bool false, .bool false, .bool false, .bool false, .bool false, .bool false, .bool false, .bool false, .bool false, .bool false, .bool false, .bool false, .bool false, .bool false, .bool false, .bool false, .bool false, .bool false, .bool false, .bool false, .bool false, .bool false, .bool false, .bool false, .bool false, .bool false, .bool false, .bool false, .bool false, .bool false, .bool false, .bool false, .bool false, .bool false, .bool false, .bool false, .bool false, .bool false, .bool false, .bool false, .bool false, .bool false, .bool false, .bool false, .bool false, .bool false, .bool false, .bool false, .bool false, .bool false, .bool false, .bool false, .bool false, .bool false, .bool false, .bool false, .bool false, .bool false, .bool false, .bool false, .bool false, .bool false, .bool false, .bool false, .bool false, .bool false, .bool false, .bool false, .bool false, .bool false, .bool false, .bool false, .bool false, .bool false, .bool false, .bool false, .bool false, .bool false, .bool false, .bool false, .bool false, .bool false, .bool false, .bool false, .bool false, .bool false, .bool false, .bool false, .bool false, .bool false, .bool false, .bool false, .bool false, .bool false, .bool false, .bool false, .bool false, .bool false, .bool false, .bool false, .bool false, .bool false, .bool false, .bool false, .bool false, .bool false, .bool false, .bool false, .bool false, .bool false, .bool false, .bool false, .bool false, .bool false, .bool false, .bool false, .bool false, .bool false, .bool false, .bool false, .bool false, .bool false, .bool false, .bool false, .bool false, .bool false, .bool false, .bool false, .bool false, .bool false, .bool false, .bool false, .bool false]) := rfl
theorem zeros112 : lk? T.zeros 112 = some (.pointer none) := rfl
theorem zeros116 : lk? T.zeros 116 = some (.int .u64 0) := rfl
theorem zeros123 : lk? T.zeros 123 = some (.int .i64 0) := rfl
theorem zeros132 : lk? T.zeros 132 = some (.int .u32 0) := rfl
theorem zeros135 : lk? T.zeros 135 = some (.int .u64 0) := rfl
theorem zeros138 : lk? T.zeros 138 = some (.pointer none) := rfl
theorem zeros140 : lk? T.zeros 140 = some (.agg #[.int .u8 0, .int .u8 0, .int .u8 0, .int .u8 0, .int .u8 0, .int .u8 0, .int .u8 0, .int .u8 0, .int .u8 0, .int .u8 0, .int .u8 0, .int .u8 0, .int .u8 0, .int .u8 0, .int .u8 0, .int .u8 0, .int .u8 0, .int .u8 0, .int .u8 0, .int .u8 0, .int .u8 0, .int .u8 0, .int .u8 0, .int .u8 0, .int .u8 0, .int .u8 0, .int .u8 0, .int .u8 0, .int .u8 0, .int .u8 0, .int .u8 0, .int .u8 0, .int .u8 0, .int .u8 0, .int .u8 0, .int .u8 0, .int .u8 0, .int .u8 0, .int .u8 0, .int .u8 0, .int .u8 0, .int .u8 0, .int .u8 0, .int .u8 0, .int .u8 0, .int .u8 0, .int .u8 0, .int .u8 0, .int .u8 0, .int .u8 0, .int .u8 0, .int .u8 0, .int .u8 0, .int .u8 0, .int .u8 0, .int .u8 0, .int .u8 0, .int .u8 0, .int .u8 0, .int .u8 0, .int .u8 0, .int .u8 0, .int .u8 0, .int .u8 0, .int .u8 0, .int .u8 0, .int .u8 0, .int .u8 0, .int .u8 0, .int .u8 0, .int .u8 0, .int .u8 0, .int .u8 0, .int .u8 0, .int .u8 0, .int .u8 0, .int .u8 0, .int .u8 0, .int .u8 0, .int .u8 0, .int .u8 0, .int .u8 0, .int .u8 0, .int .u8 0, .int .u8 0, .int .u8 0, .int .u8 0, .int .u8 0, .int .u8 0, .int .u8 0, .int .u8 0, .int .u8 0, .int .u8 0, .int .u8 0, .int .u8 0, .int .u8 0, .int .u8 0, .int .u8 0, .int .u8 0, .int .u8 0, .int .u8 0, .int .u8 0, .int .u8 0, .int .u8 0, .int .u8 0, .int .u8 0, .int .u8 0, .int .u8 0, .int .u8 0, .int .u8 0, .int .u8 0, .int .u8 0, .int .u8 0, .int .u8 0, .int .u8 0, .int .u8 0, .int .u8 0, .int .u8 0, .int .u8 0, .int .u8 0, .int .u8 0, .int .u8 0, .int .u8 0, .int .u8 0, .int .u8 0, .int .u8 0, .int .u8 0, .int .u8 0, .int .u8 0, .int .u8 0, .int .u8 0, .int .u8 0, .int .u8 0, .int .u8 0, .int .u8 0, .int .u8 0, .int .u8 0, .int .u8 0, .int .u8 0, .int .u8 0, .int .u8 0, .int .u8 0, .int .u8 0, .int .u8 0, .int .u8 0, .int .u8 0, .int .u8 0, .int .u8 0, .int .u8 0, .int .u8 0, .int .u8 0, .int .u8 0, .int .u8 0, .int .u8 0, .int .u8 0, .int .u8 0, .int .u8 0, .int .u8 0, .int .u8 0, .int .u8 0, .int .u8 0, .int .u8 0, .int .u8 0, .int .u8 0, .int .u8 0, .int .u8 0, .int .u8 0, .int .u8 0, .int .u8 0, .int .u8 0, .int .u8 0, .int .u8 0, .int .u8 0, .int .u8 0, .int .u8 0, .int .u8 0, .int .u8 0, .int .u8 0, .int .u8 0, .int .u8 0, .int .u8 0, .int .u8 0, .int .u8 0, .int .u8 0, .int .u8 0, .int .u8 0, .int .u8 0, .int .u8 0, .int .u8 0, .int .u8 0, .int .u8 0, .int .u8 0, .int .u8 0, .int .u8 0, .int .u8 0, .int .u8 0, .int .u8 0, .int .u8 0, .int .u8 0, .int .u8 0, .int .u8 0, .int .u8 0, .int .u8 0, .int .u8 0, .int .u8 0, .int .u8 0, .int .u8 0, .int .u8 0, .int .u8 0, .int .u8 0, .int .u8 0, .int .u8 0, .int .u8 0, .int .u8 0, .int .u8 0, .int .u8 0, .int .u8 0, .int .u8 0, .int .u8 0, .int .u8 0, .int .u8 0, .int .u8 0, .int .u8 0, .int .u8 0, .int .u8 0, .int .u8 0, .int .u8 0, .int .u8 0, .int .u8 0, .int .u8 0, .int .u8 0, .int .u8 0, .int .u8 0, .int .u8 0, .int .u8 0, .int .u8 0, .int .u8 0, .int .u8 0, .int .u8 0, .int .u8 0, .int .u8 0, .int .u8 0, .int .u8 0, .int .u8 0, .int .u8 0, .int .u8 0, .int .u8 0, .int .u8 0, .int .u8 0, .int .u8 0, .int .u8 0, .int .u8 0, .int .u8 0, .int .u8 0, .int .u8 0, .int .u8 0]) := rfl
theorem zeros142 : lk? T.zeros 142 = some (.agg #[.int .u8 0, .int .u8 0]) := rfl
theorem zeros143 : lk? T.zeros 143 = some (.agg #[.int .u8 0, .int .u8 0, .int .u8 0, .int .u8 0, .int .u8 0, .int .u8 0, .int .u8 0, .int .u8 0, .int .u8 0, .int .u8 0, .int .u8 0, .int .u8 0, .int .u8 0, .int .u8 0, .int .u8 0, .int .u8 0, .int .u8 0, .int .u8 0, .int .u8 0, .int .u8 0, .int .u8 0, .int .u8 0, .int .u8 0, .int .u8 0, .int .u8 0, .int .u8 0, .int .u8 0, .int .u8 0, .int .u8 0, .int .u8 0, .int .u8 0, .int .u8 0]) := rfl
theorem zeros148 : lk? T.zeros 148 = some (.pointer none) := rfl
theorem fszs40 : lk? T.fszs 40 = some [(0, 1), (1, 1), (2, 1), (3, 1), (4, 1), (5, 1), (6, 1)] := rfl
theorem fszs53 : lk? T.fszs 53 = some [(0, 1), (1, 1), (2, 1), (3, 1)] := rfl
theorem fszs63 : lk? T.fszs 63 = some [(0, 1), (1, 1), (2, 1), (3, 1), (4, 1), (5, 1), (6, 1)] := rfl
theorem fszs71 : lk? T.fszs 71 = some [(0, 1), (1, 1), (2, 1), (3, 1), (4, 1), (5, 1), (6, 1)] := rfl
theorem fszs76 : lk? T.fszs 76 = some [(0, 1), (1, 1)] := rfl
theorem fszs90 : lk? T.fszs 90 = some [(0, 1), (1, 1)] := rfl
theorem fszs92 : lk? T.fszs 92 = some [(0, 1), (1, 1)] := rfl
theorem fszs101 : lk? T.fszs 101 = some [(0, 1), (1, 1), (2, 1), (3, 1)] := rfl
theorem fszs142 : lk? T.fszs 142 = some [(0, 1), (1, 1)] := rfl
theorem fszs143 : lk? T.fszs 143 = some [(0, 2), (2, 2), (4, 2), (6, 2), (8, 2), (10, 2), (12, 2), (14, 2), (16, 2), (18, 2), (20, 2), (22, 2), (24, 2), (26, 2), (28, 2), (30, 2)] := rfl
theorem eqs90 : lk? T.eqs 90 = some (eqFl [.str, .int .i64]) := rfl
theorem eqs92 : lk? T.eqs 92 = some (eqFl [.str, .int .i64]) := rfl
theorem eqs101 : lk? T.eqs 101 = some (eqFl [.int .i64, .str, .str, .int .i64]) := rfl
theorem eqs142 : lk? T.eqs 142 = some (eqFl [.int .u8, .int .u8]) := rfl
theorem eqs143 : lk? T.eqs 143 = some (eqFl [.int .u8, .int .u8, .int .u8, .int .u8, .int .u8, .int .u8, .int .u8, .int .u8, .int .u8, .int .u8, .int .u8, .int .u8, .int .u8, .int .u8, .int .u8, .int .u8, .int .u8, .int .u8, .int .u8, .int .u8, .int .u8, .int .u8, .int .u8, .int .u8, .int .u8, .int .u8, .int .u8, .int .u8, .int .u8, .int .u8, .int .u8, .int .u8]) := rfl
theorem sls22 : lk? T.sls 22 = some ⟨3, 1, 8, .int .i64 0⟩ := rfl
theorem sls30 : lk? T.sls 30 = some ⟨5, 1, 1, .int .u8 0⟩ := rfl
theorem sls36 : lk? T.sls 36 = some ⟨40, 7, 96, .agg #[.int .i64 0, .string ⟨#[]⟩, .string ⟨#[]⟩, .int .i64 0, .int .i64 0, .string ⟨#[]⟩, .slice none 0 0]⟩ := rfl
theorem sls47 : lk? T.sls 47 = some ⟨9, 1, 16, .string ⟨#[]⟩⟩ := rfl
theorem sls48 : lk? T.sls 48 = some ⟨4, 1, 1, .bool false⟩ := rfl
theorem sls59 : lk? T.sls 59 = some ⟨90, 2, 24, .agg #[.string ⟨#[]⟩, .int .i64 0]⟩ := rfl
theorem sls60 : lk? T.sls 60 = some ⟨92, 2, 24, .agg #[.string ⟨#[]⟩, .int .i64 0]⟩ := rfl
theorem sls61 : lk? T.sls 61 = some ⟨101, 4, 48, .agg #[.int .i64 0, .string ⟨#[]⟩, .string ⟨#[]⟩, .int .i64 0]⟩ := rfl
theorem sls69 : lk? T.sls 69 = some ⟨81, 1, 8, .nilFunc⟩ := rfl
theorem szs3 : lk? T.szs 3 = some none := rfl
theorem szs4 : lk? T.szs 4 = some none := rfl
theorem szs5 : lk? T.szs 5 = some none := rfl
theorem szs9 : lk? T.szs 9 = some none := rfl
theorem szs20 : lk? T.szs 20 = some none := rfl
theorem szs21 : lk? T.szs 21 = some none := rfl
theorem szs22 : lk? T.szs 22 = some none := rfl
theorem szs24 : lk? T.szs 24 = some none := rfl
theorem szs25 : lk? T.szs 25 = some none := rfl
theorem szs30 : lk? T.szs 30 = some none := rfl
theorem szs36 : lk? T.szs 36 = some none := rfl
theorem szs37 : lk? T.szs 37 = some none := rfl
theorem szs40 : lk? T.szs 40 = some (some 7) := rfl
theorem szs47 : lk? T.szs 47 = some none := rfl
theorem szs48 : lk? T.szs 48 = some none := rfl
theorem szs53 : lk? T.szs 53 = some (some 4) := rfl
theorem szs56 : lk? T.szs 56 = some none := rfl
theorem szs59 : lk? T.szs 59 = some none := rfl
theorem szs60 : lk? T.szs 60 = some none := rfl
theorem szs61 : lk? T.szs 61 = some none := rfl
theorem szs63 : lk? T.szs 63 = some (some 7) := rfl
theorem szs64 : lk? T.szs 64 = some none := rfl
theorem szs68 : lk? T.szs 68 = some none := rfl
theorem szs69 : lk? T.szs 69 = some none := rfl
theorem szs71 : lk? T.szs 71 = some (some 7) := rfl
theorem szs72 : lk? T.szs 72 = some none := rfl
theorem szs76 : lk? T.szs 76 = some (some 2) := rfl
theorem szs78 : lk? T.szs 78 = some none := rfl
theorem szs80 : lk? T.szs 80 = some none := rfl
theorem szs81 : lk? T.szs 81 = some none := rfl
theorem szs83 : lk? T.szs 83 = some none := rfl
theorem szs84 : lk? T.szs 84 = some none := rfl
theorem szs90 : lk? T.szs 90 = some (some 2) := rfl
theorem szs92 : lk? T.szs 92 = some (some 2) := rfl
theorem szs101 : lk? T.szs 101 = some (some 4) := rfl
theorem szs105 : lk? T.szs 105 = some none := rfl
theorem szs108 : lk? T.szs 108 = some (some 256) := rfl
theorem szs112 : lk? T.szs 112 = some none := rfl
theorem szs116 : lk? T.szs 116 = some none := rfl
theorem szs123 : lk? T.szs 123 = some none := rfl
theorem szs132 : lk? T.szs 132 = some none := rfl
theorem szs135 : lk? T.szs 135 = some none := rfl
theorem szs138 : lk? T.szs 138 = some none := rfl
theorem szs140 : lk? T.szs 140 = some (some 256) := rfl
theorem szs142 : lk? T.szs 142 = some (some 2) := rfl
theorem szs143 : lk? T.szs 143 = some (some 32) := rfl
theorem szs148 : lk? T.szs 148 = some none := rfl
theorem fld40_0 : T.fld 40 0 = some 0 := rfl
theorem fld40_1 : T.fld 40 1 = some 1 := rfl
theorem fld40_2 : T.fld 40 2 = some 2 := rfl
theorem fld40_3 : T.fld 40 3 = some 3 := rfl
theorem fld40_4 : T.fld 40 4 = some 4 := rfl
theorem fld40_5 : T.fld 40 5 = some 5 := rfl
theorem fld40_6 : T.fld 40 6 = some 6 := rfl
theorem fld53_0 : T.fld 53 0 = some 0 := rfl
theorem fld53_1 : T.fld 53 1 = some 1 := rfl
theorem fld53_2 : T.fld 53 2 = some 2 := rfl
theorem fld53_3 : T.fld 53 3 = some 3 := rfl
theorem fld63_0 : T.fld 63 0 = some 0 := rfl
theorem fld63_1 : T.fld 63 1 = some 1 := rfl
theorem fld63_2 : T.fld 63 2 = some 2 := rfl
theorem fld63_3 : T.fld 63 3 = some 3 := rfl
theorem fld63_4 : T.fld 63 4 = some 4 := rfl
theorem fld63_5 : T.fld 63 5 = some 5 := rfl
theorem fld63_6 : T.fld 63 6 = some 6 := rfl
theorem fld71_0 : T.fld 71 0 = some 0 := rfl
theorem fld71_1 : T.fld 71 1 = some 1 := rfl
theorem fld71_2 : T.fld 71 2 = some 2 := rfl
theorem fld71_3 : T.fld 71 3 = some 3 := rfl
theorem fld71_4 : T.fld 71 4 = some 4 := rfl
theorem fld71_5 : T.fld 71 5 = some 5 := rfl
theorem fld71_6 : T.fld 71 6 = some 6 := rfl
theorem fld76_0 : T.fld 76 0 = some 0 := rfl
theorem fld76_1 : T.fld 76 1 = some 1 := rfl
theorem fld90_0 : T.fld 90 0 = some 0 := rfl
theorem fld90_1 : T.fld 90 1 = some 1 := rfl
theorem fld92_0 : T.fld 92 0 = some 0 := rfl
theorem fld92_1 : T.fld 92 1 = some 1 := rfl
theorem fld101_0 : T.fld 101 0 = some 0 := rfl
theorem fld101_1 : T.fld 101 1 = some 1 := rfl
theorem fld101_2 : T.fld 101 2 = some 2 := rfl
theorem fld101_3 : T.fld 101 3 = some 3 := rfl
theorem fld142_0 : T.fld 142 0 = some 0 := rfl
theorem fld142_1 : T.fld 142 1 = some 1 := rfl
theorem ints3 : lk? T.ints 3 = some .i64 := rfl
theorem ints5 : lk? T.ints 5 = some .u8 := rfl
theorem ints21 : lk? T.ints 21 = some .i32 := rfl
theorem ints25 : lk? T.ints 25 = some .i64 := rfl
theorem ints37 : lk? T.ints 37 = some .u64 := rfl
theorem ints116 : lk? T.ints 116 = some .u64 := rfl
theorem ints123 : lk? T.ints 123 = some .i64 := rfl
theorem ints132 : lk? T.ints 132 = some .u32 := rfl
theorem ints135 : lk? T.ints 135 = some .u64 := rfl
theorem strs9 : T.strs.elem 9 = true := rfl
theorem ptrs24 : T.ptrs.elem 24 = true := rfl
theorem ptrs56 : T.ptrs.elem 56 = true := rfl
theorem ptrs72 : T.ptrs.elem 72 = true := rfl
theorem ptrs105 : T.ptrs.elem 105 = true := rfl
theorem ptrs112 : T.ptrs.elem 112 = true := rfl
theorem ptrs138 : T.ptrs.elem 138 = true := rfl
theorem ptrs148 : T.ptrs.elem 148 = true := rfl
theorem bools4 : T.bools.elem 4 = true := rfl
theorem nptr4 : T.ptrs.elem 4 = false := rfl
theorem arrs108 : lk? T.arrs 108 = some (256, 4, 1) := rfl
theorem arrs140 : lk? T.arrs 140 = some (256, 5, 1) := rfl
theorem arrs143 : lk? T.arrs 143 = some (16, 142, 2) := rfl
theorem byts30 : T.byts.elem 30 = true := rfl
theorem maps68 : lk? T.maps 68 = some ⟨9, 72, .pointer none⟩ := rfl
theorem narr0 : lk? T.arrs 0 = none := rfl
theorem nint0 : lk? T.ints 0 = none := rfl
theorem nsls0 : lk? T.sls 0 = none := rfl
theorem nstr0 : T.strs.elem 0 = false := rfl
theorem nbyt0 : T.byts.elem 0 = false := rfl
theorem narr3 : lk? T.arrs 3 = none := rfl
theorem nsls3 : lk? T.sls 3 = none := rfl
theorem nstr3 : T.strs.elem 3 = false := rfl
theorem nbyt3 : T.byts.elem 3 = false := rfl
theorem narr4 : lk? T.arrs 4 = none := rfl
theorem nint4 : lk? T.ints 4 = none := rfl
theorem nsls4 : lk? T.sls 4 = none := rfl
theorem nstr4 : T.strs.elem 4 = false := rfl
theorem nbyt4 : T.byts.elem 4 = false := rfl
theorem narr5 : lk? T.arrs 5 = none := rfl
theorem nsls5 : lk? T.sls 5 = none := rfl
theorem nstr5 : T.strs.elem 5 = false := rfl
theorem nbyt5 : T.byts.elem 5 = false := rfl
theorem narr9 : lk? T.arrs 9 = none := rfl
theorem nint9 : lk? T.ints 9 = none := rfl
theorem nsls9 : lk? T.sls 9 = none := rfl
theorem nbyt9 : T.byts.elem 9 = false := rfl
theorem narr20 : lk? T.arrs 20 = none := rfl
theorem nint20 : lk? T.ints 20 = none := rfl
theorem nsls20 : lk? T.sls 20 = none := rfl
theorem nstr20 : T.strs.elem 20 = false := rfl
theorem nbyt20 : T.byts.elem 20 = false := rfl
theorem narr21 : lk? T.arrs 21 = none := rfl
theorem nsls21 : lk? T.sls 21 = none := rfl
theorem nstr21 : T.strs.elem 21 = false := rfl
theorem nbyt21 : T.byts.elem 21 = false := rfl
theorem narr22 : lk? T.arrs 22 = none := rfl
theorem nint22 : lk? T.ints 22 = none := rfl
theorem nstr22 : T.strs.elem 22 = false := rfl
theorem nbyt22 : T.byts.elem 22 = false := rfl
theorem narr24 : lk? T.arrs 24 = none := rfl
theorem nint24 : lk? T.ints 24 = none := rfl
theorem nsls24 : lk? T.sls 24 = none := rfl
theorem nstr24 : T.strs.elem 24 = false := rfl
theorem nbyt24 : T.byts.elem 24 = false := rfl
theorem narr25 : lk? T.arrs 25 = none := rfl
theorem nsls25 : lk? T.sls 25 = none := rfl
theorem nstr25 : T.strs.elem 25 = false := rfl
theorem nbyt25 : T.byts.elem 25 = false := rfl
theorem narr26 : lk? T.arrs 26 = none := rfl
theorem nint26 : lk? T.ints 26 = none := rfl
theorem nsls26 : lk? T.sls 26 = none := rfl
theorem nstr26 : T.strs.elem 26 = false := rfl
theorem nbyt26 : T.byts.elem 26 = false := rfl
theorem narr30 : lk? T.arrs 30 = none := rfl
theorem nint30 : lk? T.ints 30 = none := rfl
theorem nstr30 : T.strs.elem 30 = false := rfl
theorem narr33 : lk? T.arrs 33 = none := rfl
theorem nint33 : lk? T.ints 33 = none := rfl
theorem nsls33 : lk? T.sls 33 = none := rfl
theorem nstr33 : T.strs.elem 33 = false := rfl
theorem nbyt33 : T.byts.elem 33 = false := rfl
theorem narr36 : lk? T.arrs 36 = none := rfl
theorem nint36 : lk? T.ints 36 = none := rfl
theorem nstr36 : T.strs.elem 36 = false := rfl
theorem nbyt36 : T.byts.elem 36 = false := rfl
theorem narr37 : lk? T.arrs 37 = none := rfl
theorem nsls37 : lk? T.sls 37 = none := rfl
theorem nstr37 : T.strs.elem 37 = false := rfl
theorem nbyt37 : T.byts.elem 37 = false := rfl
theorem narr40 : lk? T.arrs 40 = none := rfl
theorem nint40 : lk? T.ints 40 = none := rfl
theorem nsls40 : lk? T.sls 40 = none := rfl
theorem nstr40 : T.strs.elem 40 = false := rfl
theorem nbyt40 : T.byts.elem 40 = false := rfl
theorem narr41 : lk? T.arrs 41 = none := rfl
theorem nint41 : lk? T.ints 41 = none := rfl
theorem nsls41 : lk? T.sls 41 = none := rfl
theorem nstr41 : T.strs.elem 41 = false := rfl
theorem nbyt41 : T.byts.elem 41 = false := rfl
theorem narr47 : lk? T.arrs 47 = none := rfl
theorem nint47 : lk? T.ints 47 = none := rfl
theorem nstr47 : T.strs.elem 47 = false := rfl
theorem nbyt47 : T.byts.elem 47 = false := rfl
theorem narr48 : lk? T.arrs 48 = none := rfl
theorem nint48 : lk? T.ints 48 = none := rfl
theorem nstr48 : T.strs.elem 48 = false := rfl
theorem nbyt48 : T.byts.elem 48 = false := rfl
theorem narr53 : lk? T.arrs 53 = none := rfl
theorem nint53 : lk? T.ints 53 = none := rfl
theorem nsls53 : lk? T.sls 53 = none := rfl
theorem nstr53 : T.strs.elem 53 = false := rfl
theorem nbyt53 : T.byts.elem 53 = false := rfl
theorem narr56 : lk? T.arrs 56 = none := rfl
theorem nint56 : lk? T.ints 56 = none := rfl
theorem nsls56 : lk? T.sls 56 = none := rfl
theorem nstr56 : T.strs.elem 56 = false := rfl
theorem nbyt56 : T.byts.elem 56 = false := rfl
theorem narr59 : lk? T.arrs 59 = none := rfl
theorem nint59 : lk? T.ints 59 = none := rfl
theorem nstr59 : T.strs.elem 59 = false := rfl
theorem nbyt59 : T.byts.elem 59 = false := rfl
theorem narr60 : lk? T.arrs 60 = none := rfl
theorem nint60 : lk? T.ints 60 = none := rfl
theorem nstr60 : T.strs.elem 60 = false := rfl
theorem nbyt60 : T.byts.elem 60 = false := rfl
theorem narr61 : lk? T.arrs 61 = none := rfl
theorem nint61 : lk? T.ints 61 = none := rfl
theorem nstr61 : T.strs.elem 61 = false := rfl
theorem nbyt61 : T.byts.elem 61 = false := rfl
theorem narr63 : lk? T.arrs 63 = none := rfl
theorem nint63 : lk? T.ints 63 = none := rfl
theorem nsls63 : lk? T.sls 63 = none := rfl
theorem nstr63 : T.strs.elem 63 = false := rfl
theorem nbyt63 : T.byts.elem 63 = false := rfl
theorem narr64 : lk? T.arrs 64 = none := rfl
theorem nint64 : lk? T.ints 64 = none := rfl
theorem nsls64 : lk? T.sls 64 = none := rfl
theorem nstr64 : T.strs.elem 64 = false := rfl
theorem nbyt64 : T.byts.elem 64 = false := rfl
theorem narr65 : lk? T.arrs 65 = none := rfl
theorem nint65 : lk? T.ints 65 = none := rfl
theorem nsls65 : lk? T.sls 65 = none := rfl
theorem nstr65 : T.strs.elem 65 = false := rfl
theorem nbyt65 : T.byts.elem 65 = false := rfl
theorem narr68 : lk? T.arrs 68 = none := rfl
theorem nint68 : lk? T.ints 68 = none := rfl
theorem nsls68 : lk? T.sls 68 = none := rfl
theorem nstr68 : T.strs.elem 68 = false := rfl
theorem nbyt68 : T.byts.elem 68 = false := rfl
theorem narr69 : lk? T.arrs 69 = none := rfl
theorem nint69 : lk? T.ints 69 = none := rfl
theorem nstr69 : T.strs.elem 69 = false := rfl
theorem nbyt69 : T.byts.elem 69 = false := rfl
theorem narr71 : lk? T.arrs 71 = none := rfl
theorem nint71 : lk? T.ints 71 = none := rfl
theorem nsls71 : lk? T.sls 71 = none := rfl
theorem nstr71 : T.strs.elem 71 = false := rfl
theorem nbyt71 : T.byts.elem 71 = false := rfl
theorem narr72 : lk? T.arrs 72 = none := rfl
theorem nint72 : lk? T.ints 72 = none := rfl
theorem nsls72 : lk? T.sls 72 = none := rfl
theorem nstr72 : T.strs.elem 72 = false := rfl
theorem nbyt72 : T.byts.elem 72 = false := rfl
theorem narr73 : lk? T.arrs 73 = none := rfl
theorem nint73 : lk? T.ints 73 = none := rfl
theorem nsls73 : lk? T.sls 73 = none := rfl
theorem nstr73 : T.strs.elem 73 = false := rfl
theorem nbyt73 : T.byts.elem 73 = false := rfl
theorem narr76 : lk? T.arrs 76 = none := rfl
theorem nint76 : lk? T.ints 76 = none := rfl
theorem nsls76 : lk? T.sls 76 = none := rfl
theorem nstr76 : T.strs.elem 76 = false := rfl
theorem nbyt76 : T.byts.elem 76 = false := rfl
theorem narr78 : lk? T.arrs 78 = none := rfl
theorem nint78 : lk? T.ints 78 = none := rfl
theorem nsls78 : lk? T.sls 78 = none := rfl
theorem nstr78 : T.strs.elem 78 = false := rfl
theorem nbyt78 : T.byts.elem 78 = false := rfl
theorem narr80 : lk? T.arrs 80 = none := rfl
theorem nint80 : lk? T.ints 80 = none := rfl
theorem nsls80 : lk? T.sls 80 = none := rfl
theorem nstr80 : T.strs.elem 80 = false := rfl
theorem nbyt80 : T.byts.elem 80 = false := rfl
theorem narr81 : lk? T.arrs 81 = none := rfl
theorem nint81 : lk? T.ints 81 = none := rfl
theorem nsls81 : lk? T.sls 81 = none := rfl
theorem nstr81 : T.strs.elem 81 = false := rfl
theorem nbyt81 : T.byts.elem 81 = false := rfl
theorem narr83 : lk? T.arrs 83 = none := rfl
theorem nint83 : lk? T.ints 83 = none := rfl
theorem nsls83 : lk? T.sls 83 = none := rfl
theorem nstr83 : T.strs.elem 83 = false := rfl
theorem nbyt83 : T.byts.elem 83 = false := rfl
theorem narr84 : lk? T.arrs 84 = none := rfl
theorem nint84 : lk? T.ints 84 = none := rfl
theorem nsls84 : lk? T.sls 84 = none := rfl
theorem nstr84 : T.strs.elem 84 = false := rfl
theorem nbyt84 : T.byts.elem 84 = false := rfl
theorem narr87 : lk? T.arrs 87 = none := rfl
theorem nint87 : lk? T.ints 87 = none := rfl
theorem nsls87 : lk? T.sls 87 = none := rfl
theorem nstr87 : T.strs.elem 87 = false := rfl
theorem nbyt87 : T.byts.elem 87 = false := rfl
theorem narr90 : lk? T.arrs 90 = none := rfl
theorem nint90 : lk? T.ints 90 = none := rfl
theorem nsls90 : lk? T.sls 90 = none := rfl
theorem nstr90 : T.strs.elem 90 = false := rfl
theorem nbyt90 : T.byts.elem 90 = false := rfl
theorem narr92 : lk? T.arrs 92 = none := rfl
theorem nint92 : lk? T.ints 92 = none := rfl
theorem nsls92 : lk? T.sls 92 = none := rfl
theorem nstr92 : T.strs.elem 92 = false := rfl
theorem nbyt92 : T.byts.elem 92 = false := rfl
theorem narr94 : lk? T.arrs 94 = none := rfl
theorem nint94 : lk? T.ints 94 = none := rfl
theorem nsls94 : lk? T.sls 94 = none := rfl
theorem nstr94 : T.strs.elem 94 = false := rfl
theorem nbyt94 : T.byts.elem 94 = false := rfl
theorem narr101 : lk? T.arrs 101 = none := rfl
theorem nint101 : lk? T.ints 101 = none := rfl
theorem nsls101 : lk? T.sls 101 = none := rfl
theorem nstr101 : T.strs.elem 101 = false := rfl
theorem nbyt101 : T.byts.elem 101 = false := rfl
theorem narr105 : lk? T.arrs 105 = none := rfl
theorem nint105 : lk? T.ints 105 = none := rfl
theorem nsls105 : lk? T.sls 105 = none := rfl
theorem nstr105 : T.strs.elem 105 = false := rfl
theorem nbyt105 : T.byts.elem 105 = false := rfl
theorem nint108 : lk? T.ints 108 = none := rfl
theorem nsls108 : lk? T.sls 108 = none := rfl
theorem nstr108 : T.strs.elem 108 = false := rfl
theorem nbyt108 : T.byts.elem 108 = false := rfl
theorem narr109 : lk? T.arrs 109 = none := rfl
theorem nint109 : lk? T.ints 109 = none := rfl
theorem nsls109 : lk? T.sls 109 = none := rfl
theorem nstr109 : T.strs.elem 109 = false := rfl
theorem nbyt109 : T.byts.elem 109 = false := rfl
theorem narr112 : lk? T.arrs 112 = none := rfl
theorem nint112 : lk? T.ints 112 = none := rfl
theorem nsls112 : lk? T.sls 112 = none := rfl
theorem nstr112 : T.strs.elem 112 = false := rfl
theorem nbyt112 : T.byts.elem 112 = false := rfl
theorem narr116 : lk? T.arrs 116 = none := rfl
theorem nsls116 : lk? T.sls 116 = none := rfl
theorem nstr116 : T.strs.elem 116 = false := rfl
theorem nbyt116 : T.byts.elem 116 = false := rfl
theorem narr119 : lk? T.arrs 119 = none := rfl
theorem nint119 : lk? T.ints 119 = none := rfl
theorem nsls119 : lk? T.sls 119 = none := rfl
theorem nstr119 : T.strs.elem 119 = false := rfl
theorem nbyt119 : T.byts.elem 119 = false := rfl
theorem narr123 : lk? T.arrs 123 = none := rfl
theorem nsls123 : lk? T.sls 123 = none := rfl
theorem nstr123 : T.strs.elem 123 = false := rfl
theorem nbyt123 : T.byts.elem 123 = false := rfl
theorem narr124 : lk? T.arrs 124 = none := rfl
theorem nint124 : lk? T.ints 124 = none := rfl
theorem nsls124 : lk? T.sls 124 = none := rfl
theorem nstr124 : T.strs.elem 124 = false := rfl
theorem nbyt124 : T.byts.elem 124 = false := rfl
theorem narr129 : lk? T.arrs 129 = none := rfl
theorem nint129 : lk? T.ints 129 = none := rfl
theorem nsls129 : lk? T.sls 129 = none := rfl
theorem nstr129 : T.strs.elem 129 = false := rfl
theorem nbyt129 : T.byts.elem 129 = false := rfl
theorem narr132 : lk? T.arrs 132 = none := rfl
theorem nsls132 : lk? T.sls 132 = none := rfl
theorem nstr132 : T.strs.elem 132 = false := rfl
theorem nbyt132 : T.byts.elem 132 = false := rfl
theorem narr135 : lk? T.arrs 135 = none := rfl
theorem nsls135 : lk? T.sls 135 = none := rfl
theorem nstr135 : T.strs.elem 135 = false := rfl
theorem nbyt135 : T.byts.elem 135 = false := rfl
theorem narr138 : lk? T.arrs 138 = none := rfl
theorem nint138 : lk? T.ints 138 = none := rfl
theorem nsls138 : lk? T.sls 138 = none := rfl
theorem nstr138 : T.strs.elem 138 = false := rfl
theorem nbyt138 : T.byts.elem 138 = false := rfl
theorem nint140 : lk? T.ints 140 = none := rfl
theorem nsls140 : lk? T.sls 140 = none := rfl
theorem nstr140 : T.strs.elem 140 = false := rfl
theorem nbyt140 : T.byts.elem 140 = false := rfl
theorem narr142 : lk? T.arrs 142 = none := rfl
theorem nint142 : lk? T.ints 142 = none := rfl
theorem nsls142 : lk? T.sls 142 = none := rfl
theorem nstr142 : T.strs.elem 142 = false := rfl
theorem nbyt142 : T.byts.elem 142 = false := rfl
theorem nint143 : lk? T.ints 143 = none := rfl
theorem nsls143 : lk? T.sls 143 = none := rfl
theorem nstr143 : T.strs.elem 143 = false := rfl
theorem nbyt143 : T.byts.elem 143 = false := rfl
theorem narr148 : lk? T.arrs 148 = none := rfl
theorem nint148 : lk? T.ints 148 = none := rfl
theorem nsls148 : lk? T.sls 148 = none := rfl
theorem nstr148 : T.strs.elem 148 = false := rfl
theorem nbyt148 : T.byts.elem 148 = false := rfl
theorem narr149 : lk? T.arrs 149 = none := rfl
theorem nint149 : lk? T.ints 149 = none := rfl
theorem nsls149 : lk? T.sls 149 = none := rfl
theorem nstr149 : T.strs.elem 149 = false := rfl
theorem nbyt149 : T.byts.elem 149 = false := rfl
theorem mixed : Tryd.prog.follows .mixedOrders = true := by kernel_rfl
attribute [push_cast] zeros3 zeros4 zeros5 zeros9 zeros21 zeros22 zeros24 zeros25 zeros30 zeros36 zeros37 zeros40
attribute [push_cast] zeros47 zeros48 zeros53 zeros56 zeros59 zeros60 zeros61 zeros63 zeros64 zeros68 zeros69 zeros71
attribute [push_cast] zeros72 zeros76 zeros78 zeros80 zeros81 zeros83 zeros84 zeros90 zeros92 zeros101 zeros105 zeros108
attribute [push_cast] zeros112 zeros116 zeros123 zeros132 zeros135 zeros138 zeros140 zeros142 zeros143 zeros148 fszs40 fszs53
attribute [push_cast] fszs63 fszs71 fszs76 fszs90 fszs92 fszs101 fszs142 fszs143 eqs90 eqs92 eqs101 eqs142
attribute [push_cast] eqs143 sls22 sls30 sls36 sls47 sls48 sls59 sls60 sls61 sls69 szs3 szs4
attribute [push_cast] szs5 szs9 szs20 szs21 szs22 szs24 szs25 szs30 szs36 szs37 szs40 szs47
attribute [push_cast] szs48 szs53 szs56 szs59 szs60 szs61 szs63 szs64 szs68 szs69 szs71 szs72
attribute [push_cast] szs76 szs78 szs80 szs81 szs83 szs84 szs90 szs92 szs101 szs105 szs108 szs112
attribute [push_cast] szs116 szs123 szs132 szs135 szs138 szs140 szs142 szs143 szs148 fld40_0 fld40_1 fld40_2
attribute [push_cast] fld40_3 fld40_4 fld40_5 fld40_6 fld53_0 fld53_1 fld53_2 fld53_3 fld63_0 fld63_1 fld63_2 fld63_3
attribute [push_cast] fld63_4 fld63_5 fld63_6 fld71_0 fld71_1 fld71_2 fld71_3 fld71_4 fld71_5 fld71_6 fld76_0 fld76_1
attribute [push_cast] fld90_0 fld90_1 fld92_0 fld92_1 fld101_0 fld101_1 fld101_2 fld101_3 fld142_0 fld142_1 ints3 ints5
attribute [push_cast] ints21 ints25 ints37 ints116 ints123 ints132 ints135 strs9 ptrs24 ptrs56 ptrs72 ptrs105
attribute [push_cast] ptrs112 ptrs138 ptrs148 bools4 nptr4 arrs108 arrs140 arrs143 byts30 maps68 narr0 nint0
attribute [push_cast] nsls0 nstr0 nbyt0 narr3 nsls3 nstr3 nbyt3 narr4 nint4 nsls4 nstr4 nbyt4
attribute [push_cast] narr5 nsls5 nstr5 nbyt5 narr9 nint9 nsls9 nbyt9 narr20 nint20 nsls20 nstr20
attribute [push_cast] nbyt20 narr21 nsls21 nstr21 nbyt21 narr22 nint22 nstr22 nbyt22 narr24 nint24 nsls24
attribute [push_cast] nstr24 nbyt24 narr25 nsls25 nstr25 nbyt25 narr26 nint26 nsls26 nstr26 nbyt26 narr30
attribute [push_cast] nint30 nstr30 narr33 nint33 nsls33 nstr33 nbyt33 narr36 nint36 nstr36 nbyt36 narr37
attribute [push_cast] nsls37 nstr37 nbyt37 narr40 nint40 nsls40 nstr40 nbyt40 narr41 nint41 nsls41 nstr41
attribute [push_cast] nbyt41 narr47 nint47 nstr47 nbyt47 narr48 nint48 nstr48 nbyt48 narr53 nint53 nsls53
attribute [push_cast] nstr53 nbyt53 narr56 nint56 nsls56 nstr56 nbyt56 narr59 nint59 nstr59 nbyt59 narr60
attribute [push_cast] nint60 nstr60 nbyt60 narr61 nint61 nstr61 nbyt61 narr63 nint63 nsls63 nstr63 nbyt63
attribute [push_cast] narr64 nint64 nsls64 nstr64 nbyt64 narr65 nint65 nsls65 nstr65 nbyt65 narr68 nint68
attribute [push_cast] nsls68 nstr68 nbyt68 narr69 nint69 nstr69 nbyt69 narr71 nint71 nsls71 nstr71 nbyt71
attribute [push_cast] narr72 nint72 nsls72 nstr72 nbyt72 narr73 nint73 nsls73 nstr73 nbyt73 narr76 nint76
attribute [push_cast] nsls76 nstr76 nbyt76 narr78 nint78 nsls78 nstr78 nbyt78 narr80 nint80 nsls80 nstr80
attribute [push_cast] nbyt80 narr81 nint81 nsls81 nstr81 nbyt81 narr83 nint83 nsls83 nstr83 nbyt83 narr84
attribute [push_cast] nint84 nsls84 nstr84 nbyt84 narr87 nint87 nsls87 nstr87 nbyt87 narr90 nint90 nsls90
attribute [push_cast] nstr90 nbyt90 narr92 nint92 nsls92 nstr92 nbyt92 narr94 nint94 nsls94 nstr94 nbyt94
attribute [push_cast] narr101 nint101 nsls101 nstr101 nbyt101 narr105 nint105 nsls105 nstr105 nbyt105 nint108 nsls108
attribute [push_cast] nstr108 nbyt108 narr109 nint109 nsls109 nstr109 nbyt109 narr112 nint112 nsls112 nstr112 nbyt112
attribute [push_cast] narr116 nsls116 nstr116 nbyt116 narr119 nint119 nsls119 nstr119 nbyt119 narr123 nsls123 nstr123
attribute [push_cast] nbyt123 narr124 nint124 nsls124 nstr124 nbyt124 narr129 nint129 nsls129 nstr129 nbyt129 narr132
attribute [push_cast] nsls132 nstr132 nbyt132 narr135 nsls135 nstr135 nbyt135 narr138 nint138 nsls138 nstr138 nbyt138
attribute [push_cast] nint140 nsls140 nstr140 nbyt140 narr142 nint142 nsls142 nstr142 nbyt142 nint143 nsls143 nstr143
attribute [push_cast] nbyt143 narr148 nint148 nsls148 nstr148 nbyt148 narr149 nint149 nsls149 nstr149 nbyt149
end Go.Proofs.YtjmafbdakalknaaDoor.Hv
