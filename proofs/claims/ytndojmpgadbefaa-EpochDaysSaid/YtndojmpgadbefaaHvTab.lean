/- The table of types that the walk over an abstract heap looks up. -/
import Derived.Test.YtndojmpgadbefaaProg
import Derived.Test.YtndojmpgadbefaaHvSet
namespace Go.Proofs.Ytndojmpgadbefaa.Hv
open Go Go.RowKit
/-- A large zero value. -/
def bz95 : Value := .agg (([] ++ (List.replicate 256 [.bool false, .int .i64 0, .slice none 0 0, .int .i64 0]).flatten : List Value)).toArray
/-- A large zero value. -/
def bz97 : Value := .agg (([.int .i64 0, .slice none 0 0, .slice none 0 0] ++ (List.replicate 256 [.bool false, .int .i64 0, .slice none 0 0, .int .i64 0]).flatten : List Value)).toArray
/-- A large zero value. -/
def bz100 : Value := .agg (([] ++ (List.replicate 256 [.bool false, .int .i64 0, .slice none 0 0, .int .i64 0]).flatten : List Value)).toArray
/-- A large zero value. -/
def bz102 : Value := .agg (([.int .i64 0, .slice none 0 0, .slice none 0 0] ++ (List.replicate 256 [.bool false, .int .i64 0, .slice none 0 0, .int .i64 0]).flatten : List Value)).toArray
def T : Tbl where
  sls := [(22, ⟨44, 4, 40, .agg #[.int .i64 0, .int .i64 0, .int .i64 0, .string ⟨#[]⟩]⟩), (30, ⟨3, 1, 8, .int .i64 0⟩), (42, ⟨51, 5, 40, .agg #[.int .i64 0, .int .i64 0, .int .i64 0, .int .i64 0, .int .i64 0]⟩), (47, ⟨5, 1, 1, .int .u8 0⟩), (71, ⟨74, 3, 24, .agg #[.int .i64 0, .int .i64 0, .bool false]⟩), (72, ⟨9, 1, 16, .string ⟨#[]⟩⟩), (77, ⟨4, 1, 1, .bool false⟩), (92, ⟨47, 1, 24, .slice none 0 0⟩), (103, ⟨113, 3, 24, .agg #[.int .i64 0, .bool false, .int .i64 0]⟩), (104, ⟨56, 5, 40, .agg #[.int .i64 0, .int .i64 0, .int .i64 0, .int .i64 0, .int .i64 0]⟩)]
  szs := [(3, none), (4, none), (5, none), (9, none), (22, none), (23, none), (24, none), (30, none), (33, none), (34, none), (37, none), (39, none), (42, none), (44, some 4), (47, none), (49, some 4), (51, some 5), (54, some 4), (56, some 5), (71, none), (72, none), (74, some 3), (76, none), (77, none), (79, none), (80, none), (82, some 6), (83, none), (84, none), (86, some 3), (88, none), (89, none), (92, none), (94, some 4), (95, some 1024), (97, some 1027), (99, some 4), (100, some 1024), (102, some 1027), (103, none), (104, none), (106, some 4), (110, some 0), (111, none), (113, some 3), (121, none), (125, none), (132, none), (135, none), (143, none), (145, none), (149, none), (151, none)]
  flds := [(44, [(0, 0), (1, 1), (2, 2), (3, 3)]), (49, [(0, 0), (1, 1), (2, 2), (3, 3)]), (51, [(0, 0), (1, 1)]), (54, [(0, 0), (1, 1), (2, 2), (3, 3)]), (56, [(0, 0), (1, 1)]), (74, [(0, 0), (1, 1), (2, 2)]), (82, [(0, 0), (1, 1), (2, 2), (3, 3), (4, 4), (5, 5)]), (86, [(0, 0), (1, 1), (2, 2)]), (94, [(0, 0), (1, 1), (2, 2), (3, 3)]), (97, [(0, 0), (1, 1), (2, 2), (3, 3)]), (99, [(0, 0), (1, 1), (2, 2), (3, 3)]), (102, [(0, 0), (1, 1), (2, 2), (3, 3)]), (106, [(0, 0), (1, 1), (2, 2), (3, 3)]), (110, []), (113, [(0, 0), (1, 1), (2, 2)])]
  ints := [(3, .i64), (5, .u8), (24, .i64), (33, .u64), (132, .u64), (135, .i64), (143, .u32), (145, .u64)]
  strs := [9]
  zeros := [(3, .int .i64 0), (4, .bool false), (5, .int .u8 0), (9, .string ⟨#[]⟩), (22, .slice none 0 0), (23, .pointer none), (24, .int .i64 0), (30, .slice none 0 0), (33, .int .u64 0), (34, .pointer none), (37, .pointer none), (39, .pointer none), (42, .slice none 0 0), (44, .agg #[.int .i64 0, .int .i64 0, .int .i64 0, .string ⟨#[]⟩]), (47, .slice none 0 0), (49, .agg #[.int .i64 0, .int .i64 0, .int .i64 0, .int .i64 0]), (51, .agg #[.int .i64 0, .int .i64 0, .int .i64 0, .int .i64 0, .int .i64 0]), (54, .agg #[.int .i64 0, .int .i64 0, .int .i64 0, .int .i64 0]), (56, .agg #[.int .i64 0, .int .i64 0, .int .i64 0, .int .i64 0, .int .i64 0]), (71, .slice none 0 0), (72, .slice none 0 0), (74, .agg #[.int .i64 0, .int .i64 0, .bool false]), (76, .nilFunc), (77, .slice none 0 0), (79, .map none), (80, .map none), (82, .agg #[.pointer none, .int .i64 0, .map none, .map none, .int .i64 0, .bool false]), (83, .pointer none), (84, .map none), (86, .agg #[.int .i64 0, .map none, .int .i64 0]), (88, .nilFunc), (89, .nilFunc), (92, .slice none 0 0), (94, .agg #[.bool false, .int .i64 0, .slice none 0 0, .int .i64 0]), (95, bz95), (97, bz97), (99, .agg #[.bool false, .int .i64 0, .slice none 0 0, .int .i64 0]), (100, bz100), (102, bz102), (103, .slice none 0 0), (104, .slice none 0 0), (106, .agg #[.pointer none, .slice none 0 0, .slice none 0 0, .slice none 0 0]), (110, .agg #[]), (111, .pointer none), (113, .agg #[.int .i64 0, .bool false, .int .i64 0]), (121, .pointer none), (125, .pointer none), (132, .int .u64 0), (135, .int .i64 0), (143, .int .u32 0), (145, .int .u64 0), (149, .pointer none), (151, .pointer none)]
  fszs := [(44, [(0, 1), (1, 1), (2, 1), (3, 1)]), (49, [(0, 1), (1, 1), (2, 1), (3, 1)]), (51, [(0, 1), (1, 4)]), (54, [(0, 1), (1, 1), (2, 1), (3, 1)]), (56, [(0, 1), (1, 4)]), (74, [(0, 1), (1, 1), (2, 1)]), (82, [(0, 1), (1, 1), (2, 1), (3, 1), (4, 1), (5, 1)]), (86, [(0, 1), (1, 1), (2, 1)]), (94, [(0, 1), (1, 1), (2, 1), (3, 1)]), (97, [(0, 1), (1, 1), (2, 1), (3, 1024)]), (99, [(0, 1), (1, 1), (2, 1), (3, 1)]), (102, [(0, 1), (1, 1), (2, 1), (3, 1024)]), (106, [(0, 1), (1, 1), (2, 1), (3, 1)]), (110, []), (113, [(0, 1), (1, 1), (2, 1)])]
  eqs := [(44, (eqFl [.int .i64, .int .i64, .int .i64, .str])), (49, (eqFl [.int .i64, .int .i64, .int .i64, .int .i64])), (51, (eqFl [.int .i64, .int .i64, .int .i64, .int .i64, .int .i64])), (54, (eqFl [.int .i64, .int .i64, .int .i64, .int .i64])), (56, (eqFl [.int .i64, .int .i64, .int .i64, .int .i64, .int .i64])), (74, (eqFl [.int .i64, .int .i64, .bool])), (113, (eqFl [.int .i64, .bool, .int .i64]))]
  ptrs := [23, 34, 37, 39, 83, 111, 121, 125, 149, 151]
  bools := [4]
  arrs := [(95, 256, 94, 4), (100, 256, 99, 4)]
  byts := [47]
  maps := [(79, ⟨3, 83, .pointer none⟩), (80, ⟨3, 3, .int .i64 0⟩), (84, ⟨51, 110, .agg #[]⟩)]
  keys := [(51, [.int .i64, .int .i64, .int .i64, .int .i64, .int .i64])]
  pks := [23, 34, 37, 39, 83, 111, 121, 125, 149, 151]
set_option maxRecDepth 20000 in
theorem TOk : T.Ok Try.prog where
  sls := List.forall_mem_cons.2 ⟨ElemT.mk' (by kernel_rfl) (by kernel_rfl) rfl (by decide) (by decide), List.forall_mem_cons.2 ⟨ElemT.mk' (by kernel_rfl) (by kernel_rfl) rfl (by decide) (by decide), List.forall_mem_cons.2 ⟨ElemT.mk' (by kernel_rfl) (by kernel_rfl) rfl (by decide) (by decide), List.forall_mem_cons.2 ⟨ElemT.mk' (by kernel_rfl) (by kernel_rfl) rfl (by decide) (by decide), List.forall_mem_cons.2 ⟨ElemT.mk' (by kernel_rfl) (by kernel_rfl) rfl (by decide) (by decide), List.forall_mem_cons.2 ⟨ElemT.mk' (by kernel_rfl) (by kernel_rfl) rfl (by decide) (by decide), List.forall_mem_cons.2 ⟨ElemT.mk' (by kernel_rfl) (by kernel_rfl) rfl (by decide) (by decide), List.forall_mem_cons.2 ⟨ElemT.mk' (by kernel_rfl) (by kernel_rfl) rfl (by decide) (by decide), List.forall_mem_cons.2 ⟨ElemT.mk' (by kernel_rfl) (by kernel_rfl) rfl (by decide) (by decide), List.forall_mem_cons.2 ⟨ElemT.mk' (by kernel_rfl) (by kernel_rfl) rfl (by decide) (by decide), fun _ h => absurd h List.not_mem_nil⟩⟩⟩⟩⟩⟩⟩⟩⟩⟩
  szs := List.forall_mem_cons.2 ⟨⟨by kernel_rfl, by kernel_rfl⟩, List.forall_mem_cons.2 ⟨⟨by kernel_rfl, by kernel_rfl⟩, List.forall_mem_cons.2 ⟨⟨by kernel_rfl, by kernel_rfl⟩, List.forall_mem_cons.2 ⟨⟨by kernel_rfl, by kernel_rfl⟩, List.forall_mem_cons.2 ⟨⟨by kernel_rfl, by kernel_rfl⟩, List.forall_mem_cons.2 ⟨⟨by kernel_rfl, by kernel_rfl⟩, List.forall_mem_cons.2 ⟨⟨by kernel_rfl, by kernel_rfl⟩, List.forall_mem_cons.2 ⟨⟨by kernel_rfl, by kernel_rfl⟩, List.forall_mem_cons.2 ⟨⟨by kernel_rfl, by kernel_rfl⟩, List.forall_mem_cons.2 ⟨⟨by kernel_rfl, by kernel_rfl⟩, List.forall_mem_cons.2 ⟨⟨by kernel_rfl, by kernel_rfl⟩, List.forall_mem_cons.2 ⟨⟨by kernel_rfl, by kernel_rfl⟩, List.forall_mem_cons.2 ⟨⟨by kernel_rfl, by kernel_rfl⟩, List.forall_mem_cons.2 ⟨⟨by kernel_rfl, by kernel_rfl⟩, List.forall_mem_cons.2 ⟨⟨by kernel_rfl, by kernel_rfl⟩, List.forall_mem_cons.2 ⟨⟨by kernel_rfl, by kernel_rfl⟩, List.forall_mem_cons.2 ⟨⟨by kernel_rfl, by kernel_rfl⟩, List.forall_mem_cons.2 ⟨⟨by kernel_rfl, by kernel_rfl⟩, List.forall_mem_cons.2 ⟨⟨by kernel_rfl, by kernel_rfl⟩, List.forall_mem_cons.2 ⟨⟨by kernel_rfl, by kernel_rfl⟩, List.forall_mem_cons.2 ⟨⟨by kernel_rfl, by kernel_rfl⟩, List.forall_mem_cons.2 ⟨⟨by kernel_rfl, by kernel_rfl⟩, List.forall_mem_cons.2 ⟨⟨by kernel_rfl, by kernel_rfl⟩, List.forall_mem_cons.2 ⟨⟨by kernel_rfl, by kernel_rfl⟩, List.forall_mem_cons.2 ⟨⟨by kernel_rfl, by kernel_rfl⟩, List.forall_mem_cons.2 ⟨⟨by kernel_rfl, by kernel_rfl⟩, List.forall_mem_cons.2 ⟨⟨by kernel_rfl, by kernel_rfl⟩, List.forall_mem_cons.2 ⟨⟨by kernel_rfl, by kernel_rfl⟩, List.forall_mem_cons.2 ⟨⟨by kernel_rfl, by kernel_rfl⟩, List.forall_mem_cons.2 ⟨⟨by kernel_rfl, by kernel_rfl⟩, List.forall_mem_cons.2 ⟨⟨by kernel_rfl, by kernel_rfl⟩, List.forall_mem_cons.2 ⟨⟨by kernel_rfl, by kernel_rfl⟩, List.forall_mem_cons.2 ⟨⟨by kernel_rfl, by kernel_rfl⟩, List.forall_mem_cons.2 ⟨⟨by kernel_rfl, by kernel_rfl⟩, List.forall_mem_cons.2 ⟨⟨by kernel_rfl, by kernel_rfl⟩, List.forall_mem_cons.2 ⟨⟨by kernel_rfl, by kernel_rfl⟩, List.forall_mem_cons.2 ⟨⟨by kernel_rfl, by kernel_rfl⟩, List.forall_mem_cons.2 ⟨⟨by kernel_rfl, by kernel_rfl⟩, List.forall_mem_cons.2 ⟨⟨by kernel_rfl, by kernel_rfl⟩, List.forall_mem_cons.2 ⟨⟨by kernel_rfl, by kernel_rfl⟩, List.forall_mem_cons.2 ⟨⟨by kernel_rfl, by kernel_rfl⟩, List.forall_mem_cons.2 ⟨⟨by kernel_rfl, by kernel_rfl⟩, List.forall_mem_cons.2 ⟨⟨by kernel_rfl, by kernel_rfl⟩, List.forall_mem_cons.2 ⟨⟨by kernel_rfl, by kernel_rfl⟩, List.forall_mem_cons.2 ⟨⟨by kernel_rfl, by kernel_rfl⟩, List.forall_mem_cons.2 ⟨⟨by kernel_rfl, by kernel_rfl⟩, List.forall_mem_cons.2 ⟨⟨by kernel_rfl, by kernel_rfl⟩, List.forall_mem_cons.2 ⟨⟨by kernel_rfl, by kernel_rfl⟩, List.forall_mem_cons.2 ⟨⟨by kernel_rfl, by kernel_rfl⟩, List.forall_mem_cons.2 ⟨⟨by kernel_rfl, by kernel_rfl⟩, List.forall_mem_cons.2 ⟨⟨by kernel_rfl, by kernel_rfl⟩, List.forall_mem_cons.2 ⟨⟨by kernel_rfl, by kernel_rfl⟩, List.forall_mem_cons.2 ⟨⟨by kernel_rfl, by kernel_rfl⟩, fun _ h => absurd h List.not_mem_nil⟩⟩⟩⟩⟩⟩⟩⟩⟩⟩⟩⟩⟩⟩⟩⟩⟩⟩⟩⟩⟩⟩⟩⟩⟩⟩⟩⟩⟩⟩⟩⟩⟩⟩⟩⟩⟩⟩⟩⟩⟩⟩⟩⟩⟩⟩⟩⟩⟩⟩⟩⟩⟩
  flds := List.forall_mem_cons.2 ⟨(List.forall_mem_cons.2 ⟨by kernel_rfl, List.forall_mem_cons.2 ⟨by kernel_rfl, List.forall_mem_cons.2 ⟨by kernel_rfl, List.forall_mem_cons.2 ⟨by kernel_rfl, fun _ h => absurd h List.not_mem_nil⟩⟩⟩⟩), List.forall_mem_cons.2 ⟨(List.forall_mem_cons.2 ⟨by kernel_rfl, List.forall_mem_cons.2 ⟨by kernel_rfl, List.forall_mem_cons.2 ⟨by kernel_rfl, List.forall_mem_cons.2 ⟨by kernel_rfl, fun _ h => absurd h List.not_mem_nil⟩⟩⟩⟩), List.forall_mem_cons.2 ⟨(List.forall_mem_cons.2 ⟨by kernel_rfl, List.forall_mem_cons.2 ⟨by kernel_rfl, fun _ h => absurd h List.not_mem_nil⟩⟩), List.forall_mem_cons.2 ⟨(List.forall_mem_cons.2 ⟨by kernel_rfl, List.forall_mem_cons.2 ⟨by kernel_rfl, List.forall_mem_cons.2 ⟨by kernel_rfl, List.forall_mem_cons.2 ⟨by kernel_rfl, fun _ h => absurd h List.not_mem_nil⟩⟩⟩⟩), List.forall_mem_cons.2 ⟨(List.forall_mem_cons.2 ⟨by kernel_rfl, List.forall_mem_cons.2 ⟨by kernel_rfl, fun _ h => absurd h List.not_mem_nil⟩⟩), List.forall_mem_cons.2 ⟨(List.forall_mem_cons.2 ⟨by kernel_rfl, List.forall_mem_cons.2 ⟨by kernel_rfl, List.forall_mem_cons.2 ⟨by kernel_rfl, fun _ h => absurd h List.not_mem_nil⟩⟩⟩), List.forall_mem_cons.2 ⟨(List.forall_mem_cons.2 ⟨by kernel_rfl, List.forall_mem_cons.2 ⟨by kernel_rfl, List.forall_mem_cons.2 ⟨by kernel_rfl, List.forall_mem_cons.2 ⟨by kernel_rfl, List.forall_mem_cons.2 ⟨by kernel_rfl, List.forall_mem_cons.2 ⟨by kernel_rfl, fun _ h => absurd h List.not_mem_nil⟩⟩⟩⟩⟩⟩), List.forall_mem_cons.2 ⟨(List.forall_mem_cons.2 ⟨by kernel_rfl, List.forall_mem_cons.2 ⟨by kernel_rfl, List.forall_mem_cons.2 ⟨by kernel_rfl, fun _ h => absurd h List.not_mem_nil⟩⟩⟩), List.forall_mem_cons.2 ⟨(List.forall_mem_cons.2 ⟨by kernel_rfl, List.forall_mem_cons.2 ⟨by kernel_rfl, List.forall_mem_cons.2 ⟨by kernel_rfl, List.forall_mem_cons.2 ⟨by kernel_rfl, fun _ h => absurd h List.not_mem_nil⟩⟩⟩⟩), List.forall_mem_cons.2 ⟨(List.forall_mem_cons.2 ⟨by kernel_rfl, List.forall_mem_cons.2 ⟨by kernel_rfl, List.forall_mem_cons.2 ⟨by kernel_rfl, List.forall_mem_cons.2 ⟨by kernel_rfl, fun _ h => absurd h List.not_mem_nil⟩⟩⟩⟩), List.forall_mem_cons.2 ⟨(List.forall_mem_cons.2 ⟨by kernel_rfl, List.forall_mem_cons.2 ⟨by kernel_rfl, List.forall_mem_cons.2 ⟨by kernel_rfl, List.forall_mem_cons.2 ⟨by kernel_rfl, fun _ h => absurd h List.not_mem_nil⟩⟩⟩⟩), List.forall_mem_cons.2 ⟨(List.forall_mem_cons.2 ⟨by kernel_rfl, List.forall_mem_cons.2 ⟨by kernel_rfl, List.forall_mem_cons.2 ⟨by kernel_rfl, List.forall_mem_cons.2 ⟨by kernel_rfl, fun _ h => absurd h List.not_mem_nil⟩⟩⟩⟩), List.forall_mem_cons.2 ⟨(List.forall_mem_cons.2 ⟨by kernel_rfl, List.forall_mem_cons.2 ⟨by kernel_rfl, List.forall_mem_cons.2 ⟨by kernel_rfl, List.forall_mem_cons.2 ⟨by kernel_rfl, fun _ h => absurd h List.not_mem_nil⟩⟩⟩⟩), List.forall_mem_cons.2 ⟨(fun _ h => absurd h List.not_mem_nil), List.forall_mem_cons.2 ⟨(List.forall_mem_cons.2 ⟨by kernel_rfl, List.forall_mem_cons.2 ⟨by kernel_rfl, List.forall_mem_cons.2 ⟨by kernel_rfl, fun _ h => absurd h List.not_mem_nil⟩⟩⟩), fun _ h => absurd h List.not_mem_nil⟩⟩⟩⟩⟩⟩⟩⟩⟩⟩⟩⟩⟩⟩⟩
  ints := List.forall_mem_cons.2 ⟨by kernel_rfl, List.forall_mem_cons.2 ⟨by kernel_rfl, List.forall_mem_cons.2 ⟨by kernel_rfl, List.forall_mem_cons.2 ⟨by kernel_rfl, List.forall_mem_cons.2 ⟨by kernel_rfl, List.forall_mem_cons.2 ⟨by kernel_rfl, List.forall_mem_cons.2 ⟨by kernel_rfl, List.forall_mem_cons.2 ⟨by kernel_rfl, fun _ h => absurd h List.not_mem_nil⟩⟩⟩⟩⟩⟩⟩⟩
  strs := List.forall_mem_cons.2 ⟨by kernel_rfl, fun _ h => absurd h List.not_mem_nil⟩
  zeros := List.forall_mem_cons.2 ⟨by unfold okZero; kernel_rfl, List.forall_mem_cons.2 ⟨by unfold okZero; kernel_rfl, List.forall_mem_cons.2 ⟨by unfold okZero; kernel_rfl, List.forall_mem_cons.2 ⟨by unfold okZero; kernel_rfl, List.forall_mem_cons.2 ⟨by unfold okZero; kernel_rfl, List.forall_mem_cons.2 ⟨by unfold okZero; kernel_rfl, List.forall_mem_cons.2 ⟨by unfold okZero; kernel_rfl, List.forall_mem_cons.2 ⟨by unfold okZero; kernel_rfl, List.forall_mem_cons.2 ⟨by unfold okZero; kernel_rfl, List.forall_mem_cons.2 ⟨by unfold okZero; kernel_rfl, List.forall_mem_cons.2 ⟨by unfold okZero; kernel_rfl, List.forall_mem_cons.2 ⟨by unfold okZero; kernel_rfl, List.forall_mem_cons.2 ⟨by unfold okZero; kernel_rfl, List.forall_mem_cons.2 ⟨by unfold okZero; kernel_rfl, List.forall_mem_cons.2 ⟨by unfold okZero; kernel_rfl, List.forall_mem_cons.2 ⟨by unfold okZero; kernel_rfl, List.forall_mem_cons.2 ⟨by unfold okZero; kernel_rfl, List.forall_mem_cons.2 ⟨by unfold okZero; kernel_rfl, List.forall_mem_cons.2 ⟨by unfold okZero; kernel_rfl, List.forall_mem_cons.2 ⟨by unfold okZero; kernel_rfl, List.forall_mem_cons.2 ⟨by unfold okZero; kernel_rfl, List.forall_mem_cons.2 ⟨by unfold okZero; kernel_rfl, List.forall_mem_cons.2 ⟨by unfold okZero; kernel_rfl, List.forall_mem_cons.2 ⟨by unfold okZero; kernel_rfl, List.forall_mem_cons.2 ⟨by unfold okZero; kernel_rfl, List.forall_mem_cons.2 ⟨by unfold okZero; kernel_rfl, List.forall_mem_cons.2 ⟨by unfold okZero; kernel_rfl, List.forall_mem_cons.2 ⟨by unfold okZero; kernel_rfl, List.forall_mem_cons.2 ⟨by unfold okZero; kernel_rfl, List.forall_mem_cons.2 ⟨by unfold okZero; kernel_rfl, List.forall_mem_cons.2 ⟨by unfold okZero; kernel_rfl, List.forall_mem_cons.2 ⟨by unfold okZero; kernel_rfl, List.forall_mem_cons.2 ⟨by unfold okZero; kernel_rfl, List.forall_mem_cons.2 ⟨by unfold okZero; kernel_rfl, List.forall_mem_cons.2 ⟨by unfold okZero; kernel_rfl, List.forall_mem_cons.2 ⟨by unfold okZero; kernel_rfl, List.forall_mem_cons.2 ⟨by unfold okZero; kernel_rfl, List.forall_mem_cons.2 ⟨by unfold okZero; kernel_rfl, List.forall_mem_cons.2 ⟨by unfold okZero; kernel_rfl, List.forall_mem_cons.2 ⟨by unfold okZero; kernel_rfl, List.forall_mem_cons.2 ⟨by unfold okZero; kernel_rfl, List.forall_mem_cons.2 ⟨by unfold okZero; kernel_rfl, List.forall_mem_cons.2 ⟨by unfold okZero; kernel_rfl, List.forall_mem_cons.2 ⟨by unfold okZero; kernel_rfl, List.forall_mem_cons.2 ⟨by unfold okZero; kernel_rfl, List.forall_mem_cons.2 ⟨by unfold okZero; kernel_rfl, List.forall_mem_cons.2 ⟨by unfold okZero; kernel_rfl, List.forall_mem_cons.2 ⟨by unfold okZero; kernel_rfl, List.forall_mem_cons.2 ⟨by unfold okZero; kernel_rfl, List.forall_mem_cons.2 ⟨by unfold okZero; kernel_rfl, List.forall_mem_cons.2 ⟨by unfold okZero; kernel_rfl, List.forall_mem_cons.2 ⟨by unfold okZero; kernel_rfl, List.forall_mem_cons.2 ⟨by unfold okZero; kernel_rfl, fun _ h => absurd h List.not_mem_nil⟩⟩⟩⟩⟩⟩⟩⟩⟩⟩⟩⟩⟩⟩⟩⟩⟩⟩⟩⟩⟩⟩⟩⟩⟩⟩⟩⟩⟩⟩⟩⟩⟩⟩⟩⟩⟩⟩⟩⟩⟩⟩⟩⟩⟩⟩⟩⟩⟩⟩⟩⟩⟩
  fszs := List.forall_mem_cons.2 ⟨by unfold okFsz; kernel_rfl, List.forall_mem_cons.2 ⟨by unfold okFsz; kernel_rfl, List.forall_mem_cons.2 ⟨by unfold okFsz; kernel_rfl, List.forall_mem_cons.2 ⟨by unfold okFsz; kernel_rfl, List.forall_mem_cons.2 ⟨by unfold okFsz; kernel_rfl, List.forall_mem_cons.2 ⟨by unfold okFsz; kernel_rfl, List.forall_mem_cons.2 ⟨by unfold okFsz; kernel_rfl, List.forall_mem_cons.2 ⟨by unfold okFsz; kernel_rfl, List.forall_mem_cons.2 ⟨by unfold okFsz; kernel_rfl, List.forall_mem_cons.2 ⟨by unfold okFsz; kernel_rfl, List.forall_mem_cons.2 ⟨by unfold okFsz; kernel_rfl, List.forall_mem_cons.2 ⟨by unfold okFsz; kernel_rfl, List.forall_mem_cons.2 ⟨by unfold okFsz; kernel_rfl, List.forall_mem_cons.2 ⟨by unfold okFsz; kernel_rfl, List.forall_mem_cons.2 ⟨by unfold okFsz; kernel_rfl, fun _ h => absurd h List.not_mem_nil⟩⟩⟩⟩⟩⟩⟩⟩⟩⟩⟩⟩⟩⟩⟩
  eqs := List.forall_mem_cons.2 ⟨okEq_flat ⟨by kernel_rfl, by kernel_rfl⟩ (by kernel_rfl), List.forall_mem_cons.2 ⟨okEq_flat ⟨by kernel_rfl, by kernel_rfl⟩ (by kernel_rfl), List.forall_mem_cons.2 ⟨okEq_flat ⟨by kernel_rfl, by kernel_rfl⟩ (by kernel_rfl), List.forall_mem_cons.2 ⟨okEq_flat ⟨by kernel_rfl, by kernel_rfl⟩ (by kernel_rfl), List.forall_mem_cons.2 ⟨okEq_flat ⟨by kernel_rfl, by kernel_rfl⟩ (by kernel_rfl), List.forall_mem_cons.2 ⟨okEq_flat ⟨by kernel_rfl, by kernel_rfl⟩ (by kernel_rfl), List.forall_mem_cons.2 ⟨okEq_flat ⟨by kernel_rfl, by kernel_rfl⟩ (by kernel_rfl), fun _ h => absurd h List.not_mem_nil⟩⟩⟩⟩⟩⟩⟩
  ptrs := List.forall_mem_cons.2 ⟨by unfold okPtr; kernel_rfl, List.forall_mem_cons.2 ⟨by unfold okPtr; kernel_rfl, List.forall_mem_cons.2 ⟨by unfold okPtr; kernel_rfl, List.forall_mem_cons.2 ⟨by unfold okPtr; kernel_rfl, List.forall_mem_cons.2 ⟨by unfold okPtr; kernel_rfl, List.forall_mem_cons.2 ⟨by unfold okPtr; kernel_rfl, List.forall_mem_cons.2 ⟨by unfold okPtr; kernel_rfl, List.forall_mem_cons.2 ⟨by unfold okPtr; kernel_rfl, List.forall_mem_cons.2 ⟨by unfold okPtr; kernel_rfl, List.forall_mem_cons.2 ⟨by unfold okPtr; kernel_rfl, fun _ h => absurd h List.not_mem_nil⟩⟩⟩⟩⟩⟩⟩⟩⟩⟩
  bools := List.forall_mem_cons.2 ⟨by kernel_rfl, fun _ h => absurd h List.not_mem_nil⟩
  arrs := List.forall_mem_cons.2 ⟨⟨by kernel_rfl, by kernel_rfl⟩, List.forall_mem_cons.2 ⟨⟨by kernel_rfl, by kernel_rfl⟩, fun _ h => absurd h List.not_mem_nil⟩⟩
  byts := List.forall_mem_cons.2 ⟨⟨5, by kernel_rfl, by kernel_rfl, by kernel_rfl⟩, fun _ h => absurd h List.not_mem_nil⟩
  maps := List.forall_mem_cons.2 ⟨⟨by kernel_rfl, by kernel_rfl⟩, List.forall_mem_cons.2 ⟨⟨by kernel_rfl, by kernel_rfl⟩, List.forall_mem_cons.2 ⟨⟨by kernel_rfl, by kernel_rfl⟩, fun _ h => absurd h List.not_mem_nil⟩⟩⟩
  keys := List.forall_mem_cons.2 ⟨⟨by kernel_rfl, by kernel_rfl⟩, fun _ h => absurd h List.not_mem_nil⟩
  pks := List.forall_mem_cons.2 ⟨by kernel_rfl, List.forall_mem_cons.2 ⟨by kernel_rfl, List.forall_mem_cons.2 ⟨by kernel_rfl, List.forall_mem_cons.2 ⟨by kernel_rfl, List.forall_mem_cons.2 ⟨by kernel_rfl, List.forall_mem_cons.2 ⟨by kernel_rfl, List.forall_mem_cons.2 ⟨by kernel_rfl, List.forall_mem_cons.2 ⟨by kernel_rfl, List.forall_mem_cons.2 ⟨by kernel_rfl, List.forall_mem_cons.2 ⟨by kernel_rfl, fun _ h => absurd h List.not_mem_nil⟩⟩⟩⟩⟩⟩⟩⟩⟩⟩
theorem pks23 : T.pks.elem 23 = true := rfl
theorem pks34 : T.pks.elem 34 = true := rfl
theorem pks37 : T.pks.elem 37 = true := rfl
theorem pks39 : T.pks.elem 39 = true := rfl
theorem pks83 : T.pks.elem 83 = true := rfl
theorem pks111 : T.pks.elem 111 = true := rfl
theorem pks121 : T.pks.elem 121 = true := rfl
theorem pks125 : T.pks.elem 125 = true := rfl
theorem pks149 : T.pks.elem 149 = true := rfl
theorem pks151 : T.pks.elem 151 = true := rfl
theorem keys51 : lk? T.keys 51 = some [.int .i64, .int .i64, .int .i64, .int .i64, .int .i64] := rfl
theorem zeros3 : lk? T.zeros 3 = some (.int .i64 0) := rfl
theorem zeros4 : lk? T.zeros 4 = some (.bool false) := rfl
theorem zeros5 : lk? T.zeros 5 = some (.int .u8 0) := rfl
theorem zeros9 : lk? T.zeros 9 = some (.string ⟨#[]⟩) := rfl
theorem zeros22 : lk? T.zeros 22 = some (.slice none 0 0) := rfl
theorem zeros23 : lk? T.zeros 23 = some (.pointer none) := rfl
theorem zeros24 : lk? T.zeros 24 = some (.int .i64 0) := rfl
theorem zeros30 : lk? T.zeros 30 = some (.slice none 0 0) := rfl
theorem zeros33 : lk? T.zeros 33 = some (.int .u64 0) := rfl
theorem zeros34 : lk? T.zeros 34 = some (.pointer none) := rfl
theorem zeros37 : lk? T.zeros 37 = some (.pointer none) := rfl
theorem zeros39 : lk? T.zeros 39 = some (.pointer none) := rfl
theorem zeros42 : lk? T.zeros 42 = some (.slice none 0 0) := rfl
theorem zeros44 : lk? T.zeros 44 = some (.agg #[.int .i64 0, .int .i64 0, .int .i64 0, .string ⟨#[]⟩]) := rfl
theorem zeros47 : lk? T.zeros 47 = some (.slice none 0 0) := rfl
theorem zeros49 : lk? T.zeros 49 = some (.agg #[.int .i64 0, .int .i64 0, .int .i64 0, .int .i64 0]) := rfl
theorem zeros51 : lk? T.zeros 51 = some (.agg #[.int .i64 0, .int .i64 0, .int .i64 0, .int .i64 0, .int .i64 0]) := rfl
theorem zeros54 : lk? T.zeros 54 = some (.agg #[.int .i64 0, .int .i64 0, .int .i64 0, .int .i64 0]) := rfl
theorem zeros56 : lk? T.zeros 56 = some (.agg #[.int .i64 0, .int .i64 0, .int .i64 0, .int .i64 0, .int .i64 0]) := rfl
theorem zeros71 : lk? T.zeros 71 = some (.slice none 0 0) := rfl
theorem zeros72 : lk? T.zeros 72 = some (.slice none 0 0) := rfl
theorem zeros74 : lk? T.zeros 74 = some (.agg #[.int .i64 0, .int .i64 0, .bool false]) := rfl
theorem zeros76 : lk? T.zeros 76 = some (.nilFunc) := rfl
theorem zeros77 : lk? T.zeros 77 = some (.slice none 0 0) := rfl
theorem zeros79 : lk? T.zeros 79 = some (.map none) := rfl
theorem zeros80 : lk? T.zeros 80 = some (.map none) := rfl
theorem zeros82 : lk? T.zeros 82 = some (.agg #[.pointer none, .int .i64 0, .map none, .map none, .int .i64 0, .bool false]) := rfl
theorem zeros83 : lk? T.zeros 83 = some (.pointer none) := rfl
theorem zeros84 : lk? T.zeros 84 = some (.map none) := rfl
theorem zeros86 : lk? T.zeros 86 = some (.agg #[.int .i64 0, .map none, .int .i64 0]) := rfl
theorem zeros88 : lk? T.zeros 88 = some (.nilFunc) := rfl
theorem zeros89 : lk? T.zeros 89 = some (.nilFunc) := rfl
theorem zeros92 : lk? T.zeros 92 = some (.slice none 0 0) := rfl
theorem zeros94 : lk? T.zeros 94 = some (.agg #[.bool false, .int .i64 0, .slice none 0 0, .int .i64 0]) := rfl
theorem zeros95 : lk? T.zeros 95 = some (bz95) := rfl
theorem zeros97 : lk? T.zeros 97 = some (bz97) := rfl
theorem zeros99 : lk? T.zeros 99 = some (.agg #[.bool false, .int .i64 0, .slice none 0 0, .int .i64 0]) := rfl
theorem zeros100 : lk? T.zeros 100 = some (bz100) := rfl
theorem zeros102 : lk? T.zeros 102 = some (bz102) := rfl
theorem zeros103 : lk? T.zeros 103 = some (.slice none 0 0) := rfl
theorem zeros104 : lk? T.zeros 104 = some (.slice none 0 0) := rfl
theorem zeros106 : lk? T.zeros 106 = some (.agg #[.pointer none, .slice none 0 0, .slice none 0 0, .slice none 0 0]) := rfl
theorem zeros110 : lk? T.zeros 110 = some (.agg #[]) := rfl
theorem zeros111 : lk? T.zeros 111 = some (.pointer none) := rfl
theorem zeros113 : lk? T.zeros 113 = some (.agg #[.int .i64 0, .bool false, .int .i64 0]) := rfl
theorem zeros121 : lk? T.zeros 121 = some (.pointer none) := rfl
theorem zeros125 : lk? T.zeros 125 = some (.pointer none) := rfl
theorem zeros132 : lk? T.zeros 132 = some (.int .u64 0) := rfl
theorem zeros135 : lk? T.zeros 135 = some (.int .i64 0) := rfl
theorem zeros143 : lk? T.zeros 143 = some (.int .u32 0) := rfl
theorem zeros145 : lk? T.zeros 145 = some (.int .u64 0) := rfl
theorem zeros149 : lk? T.zeros 149 = some (.pointer none) := rfl
theorem zeros151 : lk? T.zeros 151 = some (.pointer none) := rfl
theorem fszs44 : lk? T.fszs 44 = some [(0, 1), (1, 1), (2, 1), (3, 1)] := rfl
theorem fszs49 : lk? T.fszs 49 = some [(0, 1), (1, 1), (2, 1), (3, 1)] := rfl
theorem fszs51 : lk? T.fszs 51 = some [(0, 1), (1, 4)] := rfl
theorem fszs54 : lk? T.fszs 54 = some [(0, 1), (1, 1), (2, 1), (3, 1)] := rfl
theorem fszs56 : lk? T.fszs 56 = some [(0, 1), (1, 4)] := rfl
theorem fszs74 : lk? T.fszs 74 = some [(0, 1), (1, 1), (2, 1)] := rfl
theorem fszs82 : lk? T.fszs 82 = some [(0, 1), (1, 1), (2, 1), (3, 1), (4, 1), (5, 1)] := rfl
theorem fszs86 : lk? T.fszs 86 = some [(0, 1), (1, 1), (2, 1)] := rfl
theorem fszs94 : lk? T.fszs 94 = some [(0, 1), (1, 1), (2, 1), (3, 1)] := rfl
theorem fszs97 : lk? T.fszs 97 = some [(0, 1), (1, 1), (2, 1), (3, 1024)] := rfl
theorem fszs99 : lk? T.fszs 99 = some [(0, 1), (1, 1), (2, 1), (3, 1)] := rfl
theorem fszs102 : lk? T.fszs 102 = some [(0, 1), (1, 1), (2, 1), (3, 1024)] := rfl
theorem fszs106 : lk? T.fszs 106 = some [(0, 1), (1, 1), (2, 1), (3, 1)] := rfl
theorem fszs110 : lk? T.fszs 110 = some [] := rfl
theorem fszs113 : lk? T.fszs 113 = some [(0, 1), (1, 1), (2, 1)] := rfl
theorem eqs44 : lk? T.eqs 44 = some (eqFl [.int .i64, .int .i64, .int .i64, .str]) := rfl
theorem eqs49 : lk? T.eqs 49 = some (eqFl [.int .i64, .int .i64, .int .i64, .int .i64]) := rfl
theorem eqs51 : lk? T.eqs 51 = some (eqFl [.int .i64, .int .i64, .int .i64, .int .i64, .int .i64]) := rfl
theorem eqs54 : lk? T.eqs 54 = some (eqFl [.int .i64, .int .i64, .int .i64, .int .i64]) := rfl
theorem eqs56 : lk? T.eqs 56 = some (eqFl [.int .i64, .int .i64, .int .i64, .int .i64, .int .i64]) := rfl
theorem eqs74 : lk? T.eqs 74 = some (eqFl [.int .i64, .int .i64, .bool]) := rfl
theorem eqs113 : lk? T.eqs 113 = some (eqFl [.int .i64, .bool, .int .i64]) := rfl
theorem sls22 : lk? T.sls 22 = some ⟨44, 4, 40, .agg #[.int .i64 0, .int .i64 0, .int .i64 0, .string ⟨#[]⟩]⟩ := rfl
theorem sls30 : lk? T.sls 30 = some ⟨3, 1, 8, .int .i64 0⟩ := rfl
theorem sls42 : lk? T.sls 42 = some ⟨51, 5, 40, .agg #[.int .i64 0, .int .i64 0, .int .i64 0, .int .i64 0, .int .i64 0]⟩ := rfl
theorem sls47 : lk? T.sls 47 = some ⟨5, 1, 1, .int .u8 0⟩ := rfl
theorem sls71 : lk? T.sls 71 = some ⟨74, 3, 24, .agg #[.int .i64 0, .int .i64 0, .bool false]⟩ := rfl
theorem sls72 : lk? T.sls 72 = some ⟨9, 1, 16, .string ⟨#[]⟩⟩ := rfl
theorem sls77 : lk? T.sls 77 = some ⟨4, 1, 1, .bool false⟩ := rfl
theorem sls92 : lk? T.sls 92 = some ⟨47, 1, 24, .slice none 0 0⟩ := rfl
theorem sls103 : lk? T.sls 103 = some ⟨113, 3, 24, .agg #[.int .i64 0, .bool false, .int .i64 0]⟩ := rfl
theorem sls104 : lk? T.sls 104 = some ⟨56, 5, 40, .agg #[.int .i64 0, .int .i64 0, .int .i64 0, .int .i64 0, .int .i64 0]⟩ := rfl
theorem szs3 : lk? T.szs 3 = some none := rfl
theorem szs4 : lk? T.szs 4 = some none := rfl
theorem szs5 : lk? T.szs 5 = some none := rfl
theorem szs9 : lk? T.szs 9 = some none := rfl
theorem szs22 : lk? T.szs 22 = some none := rfl
theorem szs23 : lk? T.szs 23 = some none := rfl
theorem szs24 : lk? T.szs 24 = some none := rfl
theorem szs30 : lk? T.szs 30 = some none := rfl
theorem szs33 : lk? T.szs 33 = some none := rfl
theorem szs34 : lk? T.szs 34 = some none := rfl
theorem szs37 : lk? T.szs 37 = some none := rfl
theorem szs39 : lk? T.szs 39 = some none := rfl
theorem szs42 : lk? T.szs 42 = some none := rfl
theorem szs44 : lk? T.szs 44 = some (some 4) := rfl
theorem szs47 : lk? T.szs 47 = some none := rfl
theorem szs49 : lk? T.szs 49 = some (some 4) := rfl
theorem szs51 : lk? T.szs 51 = some (some 5) := rfl
theorem szs54 : lk? T.szs 54 = some (some 4) := rfl
theorem szs56 : lk? T.szs 56 = some (some 5) := rfl
theorem szs71 : lk? T.szs 71 = some none := rfl
theorem szs72 : lk? T.szs 72 = some none := rfl
theorem szs74 : lk? T.szs 74 = some (some 3) := rfl
theorem szs76 : lk? T.szs 76 = some none := rfl
theorem szs77 : lk? T.szs 77 = some none := rfl
theorem szs79 : lk? T.szs 79 = some none := rfl
theorem szs80 : lk? T.szs 80 = some none := rfl
theorem szs82 : lk? T.szs 82 = some (some 6) := rfl
theorem szs83 : lk? T.szs 83 = some none := rfl
theorem szs84 : lk? T.szs 84 = some none := rfl
theorem szs86 : lk? T.szs 86 = some (some 3) := rfl
theorem szs88 : lk? T.szs 88 = some none := rfl
theorem szs89 : lk? T.szs 89 = some none := rfl
theorem szs92 : lk? T.szs 92 = some none := rfl
theorem szs94 : lk? T.szs 94 = some (some 4) := rfl
theorem szs95 : lk? T.szs 95 = some (some 1024) := rfl
theorem szs97 : lk? T.szs 97 = some (some 1027) := rfl
theorem szs99 : lk? T.szs 99 = some (some 4) := rfl
theorem szs100 : lk? T.szs 100 = some (some 1024) := rfl
theorem szs102 : lk? T.szs 102 = some (some 1027) := rfl
theorem szs103 : lk? T.szs 103 = some none := rfl
theorem szs104 : lk? T.szs 104 = some none := rfl
theorem szs106 : lk? T.szs 106 = some (some 4) := rfl
theorem szs110 : lk? T.szs 110 = some (some 0) := rfl
theorem szs111 : lk? T.szs 111 = some none := rfl
theorem szs113 : lk? T.szs 113 = some (some 3) := rfl
theorem szs121 : lk? T.szs 121 = some none := rfl
theorem szs125 : lk? T.szs 125 = some none := rfl
theorem szs132 : lk? T.szs 132 = some none := rfl
theorem szs135 : lk? T.szs 135 = some none := rfl
theorem szs143 : lk? T.szs 143 = some none := rfl
theorem szs145 : lk? T.szs 145 = some none := rfl
theorem szs149 : lk? T.szs 149 = some none := rfl
theorem szs151 : lk? T.szs 151 = some none := rfl
theorem fld44_0 : T.fld 44 0 = some 0 := rfl
theorem fld44_1 : T.fld 44 1 = some 1 := rfl
theorem fld44_2 : T.fld 44 2 = some 2 := rfl
theorem fld44_3 : T.fld 44 3 = some 3 := rfl
theorem fld49_0 : T.fld 49 0 = some 0 := rfl
theorem fld49_1 : T.fld 49 1 = some 1 := rfl
theorem fld49_2 : T.fld 49 2 = some 2 := rfl
theorem fld49_3 : T.fld 49 3 = some 3 := rfl
theorem fld51_0 : T.fld 51 0 = some 0 := rfl
theorem fld51_1 : T.fld 51 1 = some 1 := rfl
theorem fld54_0 : T.fld 54 0 = some 0 := rfl
theorem fld54_1 : T.fld 54 1 = some 1 := rfl
theorem fld54_2 : T.fld 54 2 = some 2 := rfl
theorem fld54_3 : T.fld 54 3 = some 3 := rfl
theorem fld56_0 : T.fld 56 0 = some 0 := rfl
theorem fld56_1 : T.fld 56 1 = some 1 := rfl
theorem fld74_0 : T.fld 74 0 = some 0 := rfl
theorem fld74_1 : T.fld 74 1 = some 1 := rfl
theorem fld74_2 : T.fld 74 2 = some 2 := rfl
theorem fld82_0 : T.fld 82 0 = some 0 := rfl
theorem fld82_1 : T.fld 82 1 = some 1 := rfl
theorem fld82_2 : T.fld 82 2 = some 2 := rfl
theorem fld82_3 : T.fld 82 3 = some 3 := rfl
theorem fld82_4 : T.fld 82 4 = some 4 := rfl
theorem fld82_5 : T.fld 82 5 = some 5 := rfl
theorem fld86_0 : T.fld 86 0 = some 0 := rfl
theorem fld86_1 : T.fld 86 1 = some 1 := rfl
theorem fld86_2 : T.fld 86 2 = some 2 := rfl
theorem fld94_0 : T.fld 94 0 = some 0 := rfl
theorem fld94_1 : T.fld 94 1 = some 1 := rfl
theorem fld94_2 : T.fld 94 2 = some 2 := rfl
theorem fld94_3 : T.fld 94 3 = some 3 := rfl
theorem fld97_0 : T.fld 97 0 = some 0 := rfl
theorem fld97_1 : T.fld 97 1 = some 1 := rfl
theorem fld97_2 : T.fld 97 2 = some 2 := rfl
theorem fld97_3 : T.fld 97 3 = some 3 := rfl
theorem fld99_0 : T.fld 99 0 = some 0 := rfl
theorem fld99_1 : T.fld 99 1 = some 1 := rfl
theorem fld99_2 : T.fld 99 2 = some 2 := rfl
theorem fld99_3 : T.fld 99 3 = some 3 := rfl
theorem fld102_0 : T.fld 102 0 = some 0 := rfl
theorem fld102_1 : T.fld 102 1 = some 1 := rfl
theorem fld102_2 : T.fld 102 2 = some 2 := rfl
theorem fld102_3 : T.fld 102 3 = some 3 := rfl
theorem fld106_0 : T.fld 106 0 = some 0 := rfl
theorem fld106_1 : T.fld 106 1 = some 1 := rfl
theorem fld106_2 : T.fld 106 2 = some 2 := rfl
theorem fld106_3 : T.fld 106 3 = some 3 := rfl
theorem fld113_0 : T.fld 113 0 = some 0 := rfl
theorem fld113_1 : T.fld 113 1 = some 1 := rfl
theorem fld113_2 : T.fld 113 2 = some 2 := rfl
theorem ints3 : lk? T.ints 3 = some .i64 := rfl
theorem ints5 : lk? T.ints 5 = some .u8 := rfl
theorem ints24 : lk? T.ints 24 = some .i64 := rfl
theorem ints33 : lk? T.ints 33 = some .u64 := rfl
theorem ints132 : lk? T.ints 132 = some .u64 := rfl
theorem ints135 : lk? T.ints 135 = some .i64 := rfl
theorem ints143 : lk? T.ints 143 = some .u32 := rfl
theorem ints145 : lk? T.ints 145 = some .u64 := rfl
theorem strs9 : T.strs.elem 9 = true := rfl
theorem ptrs23 : T.ptrs.elem 23 = true := rfl
theorem ptrs34 : T.ptrs.elem 34 = true := rfl
theorem ptrs37 : T.ptrs.elem 37 = true := rfl
theorem ptrs39 : T.ptrs.elem 39 = true := rfl
theorem ptrs83 : T.ptrs.elem 83 = true := rfl
theorem ptrs111 : T.ptrs.elem 111 = true := rfl
theorem ptrs121 : T.ptrs.elem 121 = true := rfl
theorem ptrs125 : T.ptrs.elem 125 = true := rfl
theorem ptrs149 : T.ptrs.elem 149 = true := rfl
theorem ptrs151 : T.ptrs.elem 151 = true := rfl
theorem bools4 : T.bools.elem 4 = true := rfl
theorem nptr4 : T.ptrs.elem 4 = false := rfl
theorem arrs95 : lk? T.arrs 95 = some (256, 94, 4) := rfl
theorem arrs100 : lk? T.arrs 100 = some (256, 99, 4) := rfl
theorem byts47 : T.byts.elem 47 = true := rfl
theorem maps79 : lk? T.maps 79 = some ⟨3, 83, .pointer none⟩ := rfl
theorem maps80 : lk? T.maps 80 = some ⟨3, 3, .int .i64 0⟩ := rfl
theorem maps84 : lk? T.maps 84 = some ⟨51, 110, .agg #[]⟩ := rfl
theorem narr0 : lk? T.arrs 0 = none := rfl
theorem nint0 : lk? T.ints 0 = none := rfl
theorem nsls0 : lk? T.sls 0 = none := rfl
theorem nstr0 : T.strs.elem 0 = false := rfl
theorem nbyt0 : T.byts.elem 0 = false := rfl
theorem narr3 : lk? T.arrs 3 = none := rfl
theorem nsls3 : lk? T.sls 3 = none := rfl
theorem nstr3 : T.strs.elem 3 = false := rfl
theorem nbyt3 : T.byts.elem 3 = false := rfl
theorem narr4 : lk? T.arrs 4 = none := rfl
theorem nint4 : lk? T.ints 4 = none := rfl
theorem nsls4 : lk? T.sls 4 = none := rfl
theorem nstr4 : T.strs.elem 4 = false := rfl
theorem nbyt4 : T.byts.elem 4 = false := rfl
theorem narr5 : lk? T.arrs 5 = none := rfl
theorem nsls5 : lk? T.sls 5 = none := rfl
theorem nstr5 : T.strs.elem 5 = false := rfl
theorem nbyt5 : T.byts.elem 5 = false := rfl
theorem narr9 : lk? T.arrs 9 = none := rfl
theorem nint9 : lk? T.ints 9 = none := rfl
theorem nsls9 : lk? T.sls 9 = none := rfl
theorem nbyt9 : T.byts.elem 9 = false := rfl
theorem narr22 : lk? T.arrs 22 = none := rfl
theorem nint22 : lk? T.ints 22 = none := rfl
theorem nstr22 : T.strs.elem 22 = false := rfl
theorem nbyt22 : T.byts.elem 22 = false := rfl
theorem narr23 : lk? T.arrs 23 = none := rfl
theorem nint23 : lk? T.ints 23 = none := rfl
theorem nsls23 : lk? T.sls 23 = none := rfl
theorem nstr23 : T.strs.elem 23 = false := rfl
theorem nbyt23 : T.byts.elem 23 = false := rfl
theorem narr24 : lk? T.arrs 24 = none := rfl
theorem nsls24 : lk? T.sls 24 = none := rfl
theorem nstr24 : T.strs.elem 24 = false := rfl
theorem nbyt24 : T.byts.elem 24 = false := rfl
theorem narr25 : lk? T.arrs 25 = none := rfl
theorem nint25 : lk? T.ints 25 = none := rfl
theorem nsls25 : lk? T.sls 25 = none := rfl
theorem nstr25 : T.strs.elem 25 = false := rfl
theorem nbyt25 : T.byts.elem 25 = false := rfl
theorem narr30 : lk? T.arrs 30 = none := rfl
theorem nint30 : lk? T.ints 30 = none := rfl
theorem nstr30 : T.strs.elem 30 = false := rfl
theorem nbyt30 : T.byts.elem 30 = false := rfl
theorem narr33 : lk? T.arrs 33 = none := rfl
theorem nsls33 : lk? T.sls 33 = none := rfl
theorem nstr33 : T.strs.elem 33 = false := rfl
theorem nbyt33 : T.byts.elem 33 = false := rfl
theorem narr34 : lk? T.arrs 34 = none := rfl
theorem nint34 : lk? T.ints 34 = none := rfl
theorem nsls34 : lk? T.sls 34 = none := rfl
theorem nstr34 : T.strs.elem 34 = false := rfl
theorem nbyt34 : T.byts.elem 34 = false := rfl
theorem narr35 : lk? T.arrs 35 = none := rfl
theorem nint35 : lk? T.ints 35 = none := rfl
theorem nsls35 : lk? T.sls 35 = none := rfl
theorem nstr35 : T.strs.elem 35 = false := rfl
theorem nbyt35 : T.byts.elem 35 = false := rfl
theorem narr37 : lk? T.arrs 37 = none := rfl
theorem nint37 : lk? T.ints 37 = none := rfl
theorem nsls37 : lk? T.sls 37 = none := rfl
theorem nstr37 : T.strs.elem 37 = false := rfl
theorem nbyt37 : T.byts.elem 37 = false := rfl
theorem narr39 : lk? T.arrs 39 = none := rfl
theorem nint39 : lk? T.ints 39 = none := rfl
theorem nsls39 : lk? T.sls 39 = none := rfl
theorem nstr39 : T.strs.elem 39 = false := rfl
theorem nbyt39 : T.byts.elem 39 = false := rfl
theorem narr40 : lk? T.arrs 40 = none := rfl
theorem nint40 : lk? T.ints 40 = none := rfl
theorem nsls40 : lk? T.sls 40 = none := rfl
theorem nstr40 : T.strs.elem 40 = false := rfl
theorem nbyt40 : T.byts.elem 40 = false := rfl
theorem narr42 : lk? T.arrs 42 = none := rfl
theorem nint42 : lk? T.ints 42 = none := rfl
theorem nstr42 : T.strs.elem 42 = false := rfl
theorem nbyt42 : T.byts.elem 42 = false := rfl
theorem narr44 : lk? T.arrs 44 = none := rfl
theorem nint44 : lk? T.ints 44 = none := rfl
theorem nsls44 : lk? T.sls 44 = none := rfl
theorem nstr44 : T.strs.elem 44 = false := rfl
theorem nbyt44 : T.byts.elem 44 = false := rfl
theorem narr45 : lk? T.arrs 45 = none := rfl
theorem nint45 : lk? T.ints 45 = none := rfl
theorem nsls45 : lk? T.sls 45 = none := rfl
theorem nstr45 : T.strs.elem 45 = false := rfl
theorem nbyt45 : T.byts.elem 45 = false := rfl
theorem narr47 : lk? T.arrs 47 = none := rfl
theorem nint47 : lk? T.ints 47 = none := rfl
theorem nstr47 : T.strs.elem 47 = false := rfl
theorem narr49 : lk? T.arrs 49 = none := rfl
theorem nint49 : lk? T.ints 49 = none := rfl
theorem nsls49 : lk? T.sls 49 = none := rfl
theorem nstr49 : T.strs.elem 49 = false := rfl
theorem nbyt49 : T.byts.elem 49 = false := rfl
theorem narr51 : lk? T.arrs 51 = none := rfl
theorem nint51 : lk? T.ints 51 = none := rfl
theorem nsls51 : lk? T.sls 51 = none := rfl
theorem nstr51 : T.strs.elem 51 = false := rfl
theorem nbyt51 : T.byts.elem 51 = false := rfl
theorem narr52 : lk? T.arrs 52 = none := rfl
theorem nint52 : lk? T.ints 52 = none := rfl
theorem nsls52 : lk? T.sls 52 = none := rfl
theorem nstr52 : T.strs.elem 52 = false := rfl
theorem nbyt52 : T.byts.elem 52 = false := rfl
theorem narr54 : lk? T.arrs 54 = none := rfl
theorem nint54 : lk? T.ints 54 = none := rfl
theorem nsls54 : lk? T.sls 54 = none := rfl
theorem nstr54 : T.strs.elem 54 = false := rfl
theorem nbyt54 : T.byts.elem 54 = false := rfl
theorem narr56 : lk? T.arrs 56 = none := rfl
theorem nint56 : lk? T.ints 56 = none := rfl
theorem nsls56 : lk? T.sls 56 = none := rfl
theorem nstr56 : T.strs.elem 56 = false := rfl
theorem nbyt56 : T.byts.elem 56 = false := rfl
theorem narr57 : lk? T.arrs 57 = none := rfl
theorem nint57 : lk? T.ints 57 = none := rfl
theorem nsls57 : lk? T.sls 57 = none := rfl
theorem nstr57 : T.strs.elem 57 = false := rfl
theorem nbyt57 : T.byts.elem 57 = false := rfl
theorem narr61 : lk? T.arrs 61 = none := rfl
theorem nint61 : lk? T.ints 61 = none := rfl
theorem nsls61 : lk? T.sls 61 = none := rfl
theorem nstr61 : T.strs.elem 61 = false := rfl
theorem nbyt61 : T.byts.elem 61 = false := rfl
theorem narr63 : lk? T.arrs 63 = none := rfl
theorem nint63 : lk? T.ints 63 = none := rfl
theorem nsls63 : lk? T.sls 63 = none := rfl
theorem nstr63 : T.strs.elem 63 = false := rfl
theorem nbyt63 : T.byts.elem 63 = false := rfl
theorem narr65 : lk? T.arrs 65 = none := rfl
theorem nint65 : lk? T.ints 65 = none := rfl
theorem nsls65 : lk? T.sls 65 = none := rfl
theorem nstr65 : T.strs.elem 65 = false := rfl
theorem nbyt65 : T.byts.elem 65 = false := rfl
theorem narr67 : lk? T.arrs 67 = none := rfl
theorem nint67 : lk? T.ints 67 = none := rfl
theorem nsls67 : lk? T.sls 67 = none := rfl
theorem nstr67 : T.strs.elem 67 = false := rfl
theorem nbyt67 : T.byts.elem 67 = false := rfl
theorem narr71 : lk? T.arrs 71 = none := rfl
theorem nint71 : lk? T.ints 71 = none := rfl
theorem nstr71 : T.strs.elem 71 = false := rfl
theorem nbyt71 : T.byts.elem 71 = false := rfl
theorem narr72 : lk? T.arrs 72 = none := rfl
theorem nint72 : lk? T.ints 72 = none := rfl
theorem nstr72 : T.strs.elem 72 = false := rfl
theorem nbyt72 : T.byts.elem 72 = false := rfl
theorem narr74 : lk? T.arrs 74 = none := rfl
theorem nint74 : lk? T.ints 74 = none := rfl
theorem nsls74 : lk? T.sls 74 = none := rfl
theorem nstr74 : T.strs.elem 74 = false := rfl
theorem nbyt74 : T.byts.elem 74 = false := rfl
theorem narr76 : lk? T.arrs 76 = none := rfl
theorem nint76 : lk? T.ints 76 = none := rfl
theorem nsls76 : lk? T.sls 76 = none := rfl
theorem nstr76 : T.strs.elem 76 = false := rfl
theorem nbyt76 : T.byts.elem 76 = false := rfl
theorem narr77 : lk? T.arrs 77 = none := rfl
theorem nint77 : lk? T.ints 77 = none := rfl
theorem nstr77 : T.strs.elem 77 = false := rfl
theorem nbyt77 : T.byts.elem 77 = false := rfl
theorem narr79 : lk? T.arrs 79 = none := rfl
theorem nint79 : lk? T.ints 79 = none := rfl
theorem nsls79 : lk? T.sls 79 = none := rfl
theorem nstr79 : T.strs.elem 79 = false := rfl
theorem nbyt79 : T.byts.elem 79 = false := rfl
theorem narr80 : lk? T.arrs 80 = none := rfl
theorem nint80 : lk? T.ints 80 = none := rfl
theorem nsls80 : lk? T.sls 80 = none := rfl
theorem nstr80 : T.strs.elem 80 = false := rfl
theorem nbyt80 : T.byts.elem 80 = false := rfl
theorem narr82 : lk? T.arrs 82 = none := rfl
theorem nint82 : lk? T.ints 82 = none := rfl
theorem nsls82 : lk? T.sls 82 = none := rfl
theorem nstr82 : T.strs.elem 82 = false := rfl
theorem nbyt82 : T.byts.elem 82 = false := rfl
theorem narr83 : lk? T.arrs 83 = none := rfl
theorem nint83 : lk? T.ints 83 = none := rfl
theorem nsls83 : lk? T.sls 83 = none := rfl
theorem nstr83 : T.strs.elem 83 = false := rfl
theorem nbyt83 : T.byts.elem 83 = false := rfl
theorem narr84 : lk? T.arrs 84 = none := rfl
theorem nint84 : lk? T.ints 84 = none := rfl
theorem nsls84 : lk? T.sls 84 = none := rfl
theorem nstr84 : T.strs.elem 84 = false := rfl
theorem nbyt84 : T.byts.elem 84 = false := rfl
theorem narr86 : lk? T.arrs 86 = none := rfl
theorem nint86 : lk? T.ints 86 = none := rfl
theorem nsls86 : lk? T.sls 86 = none := rfl
theorem nstr86 : T.strs.elem 86 = false := rfl
theorem nbyt86 : T.byts.elem 86 = false := rfl
theorem narr88 : lk? T.arrs 88 = none := rfl
theorem nint88 : lk? T.ints 88 = none := rfl
theorem nsls88 : lk? T.sls 88 = none := rfl
theorem nstr88 : T.strs.elem 88 = false := rfl
theorem nbyt88 : T.byts.elem 88 = false := rfl
theorem narr89 : lk? T.arrs 89 = none := rfl
theorem nint89 : lk? T.ints 89 = none := rfl
theorem nsls89 : lk? T.sls 89 = none := rfl
theorem nstr89 : T.strs.elem 89 = false := rfl
theorem nbyt89 : T.byts.elem 89 = false := rfl
theorem narr91 : lk? T.arrs 91 = none := rfl
theorem nint91 : lk? T.ints 91 = none := rfl
theorem nsls91 : lk? T.sls 91 = none := rfl
theorem nstr91 : T.strs.elem 91 = false := rfl
theorem nbyt91 : T.byts.elem 91 = false := rfl
theorem narr92 : lk? T.arrs 92 = none := rfl
theorem nint92 : lk? T.ints 92 = none := rfl
theorem nstr92 : T.strs.elem 92 = false := rfl
theorem nbyt92 : T.byts.elem 92 = false := rfl
theorem narr94 : lk? T.arrs 94 = none := rfl
theorem nint94 : lk? T.ints 94 = none := rfl
theorem nsls94 : lk? T.sls 94 = none := rfl
theorem nstr94 : T.strs.elem 94 = false := rfl
theorem nbyt94 : T.byts.elem 94 = false := rfl
theorem nint95 : lk? T.ints 95 = none := rfl
theorem nsls95 : lk? T.sls 95 = none := rfl
theorem nstr95 : T.strs.elem 95 = false := rfl
theorem nbyt95 : T.byts.elem 95 = false := rfl
theorem narr97 : lk? T.arrs 97 = none := rfl
theorem nint97 : lk? T.ints 97 = none := rfl
theorem nsls97 : lk? T.sls 97 = none := rfl
theorem nstr97 : T.strs.elem 97 = false := rfl
theorem nbyt97 : T.byts.elem 97 = false := rfl
theorem narr99 : lk? T.arrs 99 = none := rfl
theorem nint99 : lk? T.ints 99 = none := rfl
theorem nsls99 : lk? T.sls 99 = none := rfl
theorem nstr99 : T.strs.elem 99 = false := rfl
theorem nbyt99 : T.byts.elem 99 = false := rfl
theorem nint100 : lk? T.ints 100 = none := rfl
theorem nsls100 : lk? T.sls 100 = none := rfl
theorem nstr100 : T.strs.elem 100 = false := rfl
theorem nbyt100 : T.byts.elem 100 = false := rfl
theorem narr102 : lk? T.arrs 102 = none := rfl
theorem nint102 : lk? T.ints 102 = none := rfl
theorem nsls102 : lk? T.sls 102 = none := rfl
theorem nstr102 : T.strs.elem 102 = false := rfl
theorem nbyt102 : T.byts.elem 102 = false := rfl
theorem narr103 : lk? T.arrs 103 = none := rfl
theorem nint103 : lk? T.ints 103 = none := rfl
theorem nstr103 : T.strs.elem 103 = false := rfl
theorem nbyt103 : T.byts.elem 103 = false := rfl
theorem narr104 : lk? T.arrs 104 = none := rfl
theorem nint104 : lk? T.ints 104 = none := rfl
theorem nstr104 : T.strs.elem 104 = false := rfl
theorem nbyt104 : T.byts.elem 104 = false := rfl
theorem narr106 : lk? T.arrs 106 = none := rfl
theorem nint106 : lk? T.ints 106 = none := rfl
theorem nsls106 : lk? T.sls 106 = none := rfl
theorem nstr106 : T.strs.elem 106 = false := rfl
theorem nbyt106 : T.byts.elem 106 = false := rfl
theorem narr107 : lk? T.arrs 107 = none := rfl
theorem nint107 : lk? T.ints 107 = none := rfl
theorem nsls107 : lk? T.sls 107 = none := rfl
theorem nstr107 : T.strs.elem 107 = false := rfl
theorem nbyt107 : T.byts.elem 107 = false := rfl
theorem narr110 : lk? T.arrs 110 = none := rfl
theorem nint110 : lk? T.ints 110 = none := rfl
theorem nsls110 : lk? T.sls 110 = none := rfl
theorem nstr110 : T.strs.elem 110 = false := rfl
theorem nbyt110 : T.byts.elem 110 = false := rfl
theorem narr111 : lk? T.arrs 111 = none := rfl
theorem nint111 : lk? T.ints 111 = none := rfl
theorem nsls111 : lk? T.sls 111 = none := rfl
theorem nstr111 : T.strs.elem 111 = false := rfl
theorem nbyt111 : T.byts.elem 111 = false := rfl
theorem narr113 : lk? T.arrs 113 = none := rfl
theorem nint113 : lk? T.ints 113 = none := rfl
theorem nsls113 : lk? T.sls 113 = none := rfl
theorem nstr113 : T.strs.elem 113 = false := rfl
theorem nbyt113 : T.byts.elem 113 = false := rfl
theorem narr114 : lk? T.arrs 114 = none := rfl
theorem nint114 : lk? T.ints 114 = none := rfl
theorem nsls114 : lk? T.sls 114 = none := rfl
theorem nstr114 : T.strs.elem 114 = false := rfl
theorem nbyt114 : T.byts.elem 114 = false := rfl
theorem narr117 : lk? T.arrs 117 = none := rfl
theorem nint117 : lk? T.ints 117 = none := rfl
theorem nsls117 : lk? T.sls 117 = none := rfl
theorem nstr117 : T.strs.elem 117 = false := rfl
theorem nbyt117 : T.byts.elem 117 = false := rfl
theorem narr118 : lk? T.arrs 118 = none := rfl
theorem nint118 : lk? T.ints 118 = none := rfl
theorem nsls118 : lk? T.sls 118 = none := rfl
theorem nstr118 : T.strs.elem 118 = false := rfl
theorem nbyt118 : T.byts.elem 118 = false := rfl
theorem narr121 : lk? T.arrs 121 = none := rfl
theorem nint121 : lk? T.ints 121 = none := rfl
theorem nsls121 : lk? T.sls 121 = none := rfl
theorem nstr121 : T.strs.elem 121 = false := rfl
theorem nbyt121 : T.byts.elem 121 = false := rfl
theorem narr125 : lk? T.arrs 125 = none := rfl
theorem nint125 : lk? T.ints 125 = none := rfl
theorem nsls125 : lk? T.sls 125 = none := rfl
theorem nstr125 : T.strs.elem 125 = false := rfl
theorem nbyt125 : T.byts.elem 125 = false := rfl
theorem narr126 : lk? T.arrs 126 = none := rfl
theorem nint126 : lk? T.ints 126 = none := rfl
theorem nsls126 : lk? T.sls 126 = none := rfl
theorem nstr126 : T.strs.elem 126 = false := rfl
theorem nbyt126 : T.byts.elem 126 = false := rfl
theorem narr132 : lk? T.arrs 132 = none := rfl
theorem nsls132 : lk? T.sls 132 = none := rfl
theorem nstr132 : T.strs.elem 132 = false := rfl
theorem nbyt132 : T.byts.elem 132 = false := rfl
theorem narr135 : lk? T.arrs 135 = none := rfl
theorem nsls135 : lk? T.sls 135 = none := rfl
theorem nstr135 : T.strs.elem 135 = false := rfl
theorem nbyt135 : T.byts.elem 135 = false := rfl
theorem narr136 : lk? T.arrs 136 = none := rfl
theorem nint136 : lk? T.ints 136 = none := rfl
theorem nsls136 : lk? T.sls 136 = none := rfl
theorem nstr136 : T.strs.elem 136 = false := rfl
theorem nbyt136 : T.byts.elem 136 = false := rfl
theorem narr143 : lk? T.arrs 143 = none := rfl
theorem nsls143 : lk? T.sls 143 = none := rfl
theorem nstr143 : T.strs.elem 143 = false := rfl
theorem nbyt143 : T.byts.elem 143 = false := rfl
theorem narr145 : lk? T.arrs 145 = none := rfl
theorem nsls145 : lk? T.sls 145 = none := rfl
theorem nstr145 : T.strs.elem 145 = false := rfl
theorem nbyt145 : T.byts.elem 145 = false := rfl
theorem narr149 : lk? T.arrs 149 = none := rfl
theorem nint149 : lk? T.ints 149 = none := rfl
theorem nsls149 : lk? T.sls 149 = none := rfl
theorem nstr149 : T.strs.elem 149 = false := rfl
theorem nbyt149 : T.byts.elem 149 = false := rfl
theorem narr151 : lk? T.arrs 151 = none := rfl
theorem nint151 : lk? T.ints 151 = none := rfl
theorem nsls151 : lk? T.sls 151 = none := rfl
theorem nstr151 : T.strs.elem 151 = false := rfl
theorem nbyt151 : T.byts.elem 151 = false := rfl
theorem mixed : Try.prog.follows .mixedOrders = true := by kernel_rfl
attribute [push_cast] pks23 pks34 pks37 pks39 pks83 pks111 pks121 pks125 pks149 pks151 keys51 zeros3
attribute [push_cast] zeros4 zeros5 zeros9 zeros22 zeros23 zeros24 zeros30 zeros33 zeros34 zeros37 zeros39 zeros42
attribute [push_cast] zeros44 zeros47 zeros49 zeros51 zeros54 zeros56 zeros71 zeros72 zeros74 zeros76 zeros77 zeros79
attribute [push_cast] zeros80 zeros82 zeros83 zeros84 zeros86 zeros88 zeros89 zeros92 zeros94 zeros95 zeros97 zeros99
attribute [push_cast] zeros100 zeros102 zeros103 zeros104 zeros106 zeros110 zeros111 zeros113 zeros121 zeros125 zeros132 zeros135
attribute [push_cast] zeros143 zeros145 zeros149 zeros151 fszs44 fszs49 fszs51 fszs54 fszs56 fszs74 fszs82 fszs86
attribute [push_cast] fszs94 fszs97 fszs99 fszs102 fszs106 fszs110 fszs113 eqs44 eqs49 eqs51 eqs54 eqs56
attribute [push_cast] eqs74 eqs113 sls22 sls30 sls42 sls47 sls71 sls72 sls77 sls92 sls103 sls104
attribute [push_cast] szs3 szs4 szs5 szs9 szs22 szs23 szs24 szs30 szs33 szs34 szs37 szs39
attribute [push_cast] szs42 szs44 szs47 szs49 szs51 szs54 szs56 szs71 szs72 szs74 szs76 szs77
attribute [push_cast] szs79 szs80 szs82 szs83 szs84 szs86 szs88 szs89 szs92 szs94 szs95 szs97
attribute [push_cast] szs99 szs100 szs102 szs103 szs104 szs106 szs110 szs111 szs113 szs121 szs125 szs132
attribute [push_cast] szs135 szs143 szs145 szs149 szs151 fld44_0 fld44_1 fld44_2 fld44_3 fld49_0 fld49_1 fld49_2
attribute [push_cast] fld49_3 fld51_0 fld51_1 fld54_0 fld54_1 fld54_2 fld54_3 fld56_0 fld56_1 fld74_0 fld74_1 fld74_2
attribute [push_cast] fld82_0 fld82_1 fld82_2 fld82_3 fld82_4 fld82_5 fld86_0 fld86_1 fld86_2 fld94_0 fld94_1 fld94_2
attribute [push_cast] fld94_3 fld97_0 fld97_1 fld97_2 fld97_3 fld99_0 fld99_1 fld99_2 fld99_3 fld102_0 fld102_1 fld102_2
attribute [push_cast] fld102_3 fld106_0 fld106_1 fld106_2 fld106_3 fld113_0 fld113_1 fld113_2 ints3 ints5 ints24 ints33
attribute [push_cast] ints132 ints135 ints143 ints145 strs9 ptrs23 ptrs34 ptrs37 ptrs39 ptrs83 ptrs111 ptrs121
attribute [push_cast] ptrs125 ptrs149 ptrs151 bools4 nptr4 arrs95 arrs100 byts47 maps79 maps80 maps84 narr0
attribute [push_cast] nint0 nsls0 nstr0 nbyt0 narr3 nsls3 nstr3 nbyt3 narr4 nint4 nsls4 nstr4
attribute [push_cast] nbyt4 narr5 nsls5 nstr5 nbyt5 narr9 nint9 nsls9 nbyt9 narr22 nint22 nstr22
attribute [push_cast] nbyt22 narr23 nint23 nsls23 nstr23 nbyt23 narr24 nsls24 nstr24 nbyt24 narr25 nint25
attribute [push_cast] nsls25 nstr25 nbyt25 narr30 nint30 nstr30 nbyt30 narr33 nsls33 nstr33 nbyt33 narr34
attribute [push_cast] nint34 nsls34 nstr34 nbyt34 narr35 nint35 nsls35 nstr35 nbyt35 narr37 nint37 nsls37
attribute [push_cast] nstr37 nbyt37 narr39 nint39 nsls39 nstr39 nbyt39 narr40 nint40 nsls40 nstr40 nbyt40
attribute [push_cast] narr42 nint42 nstr42 nbyt42 narr44 nint44 nsls44 nstr44 nbyt44 narr45 nint45 nsls45
attribute [push_cast] nstr45 nbyt45 narr47 nint47 nstr47 narr49 nint49 nsls49 nstr49 nbyt49 narr51 nint51
attribute [push_cast] nsls51 nstr51 nbyt51 narr52 nint52 nsls52 nstr52 nbyt52 narr54 nint54 nsls54 nstr54
attribute [push_cast] nbyt54 narr56 nint56 nsls56 nstr56 nbyt56 narr57 nint57 nsls57 nstr57 nbyt57 narr61
attribute [push_cast] nint61 nsls61 nstr61 nbyt61 narr63 nint63 nsls63 nstr63 nbyt63 narr65 nint65 nsls65
attribute [push_cast] nstr65 nbyt65 narr67 nint67 nsls67 nstr67 nbyt67 narr71 nint71 nstr71 nbyt71 narr72
attribute [push_cast] nint72 nstr72 nbyt72 narr74 nint74 nsls74 nstr74 nbyt74 narr76 nint76 nsls76 nstr76
attribute [push_cast] nbyt76 narr77 nint77 nstr77 nbyt77 narr79 nint79 nsls79 nstr79 nbyt79 narr80 nint80
attribute [push_cast] nsls80 nstr80 nbyt80 narr82 nint82 nsls82 nstr82 nbyt82 narr83 nint83 nsls83 nstr83
attribute [push_cast] nbyt83 narr84 nint84 nsls84 nstr84 nbyt84 narr86 nint86 nsls86 nstr86 nbyt86 narr88
attribute [push_cast] nint88 nsls88 nstr88 nbyt88 narr89 nint89 nsls89 nstr89 nbyt89 narr91 nint91 nsls91
attribute [push_cast] nstr91 nbyt91 narr92 nint92 nstr92 nbyt92 narr94 nint94 nsls94 nstr94 nbyt94 nint95
attribute [push_cast] nsls95 nstr95 nbyt95 narr97 nint97 nsls97 nstr97 nbyt97 narr99 nint99 nsls99 nstr99
attribute [push_cast] nbyt99 nint100 nsls100 nstr100 nbyt100 narr102 nint102 nsls102 nstr102 nbyt102 narr103 nint103
attribute [push_cast] nstr103 nbyt103 narr104 nint104 nstr104 nbyt104 narr106 nint106 nsls106 nstr106 nbyt106 narr107
attribute [push_cast] nint107 nsls107 nstr107 nbyt107 narr110 nint110 nsls110 nstr110 nbyt110 narr111 nint111 nsls111
attribute [push_cast] nstr111 nbyt111 narr113 nint113 nsls113 nstr113 nbyt113 narr114 nint114 nsls114 nstr114 nbyt114
attribute [push_cast] narr117 nint117 nsls117 nstr117 nbyt117 narr118 nint118 nsls118 nstr118 nbyt118 narr121 nint121
attribute [push_cast] nsls121 nstr121 nbyt121 narr125 nint125 nsls125 nstr125 nbyt125 narr126 nint126 nsls126 nstr126
attribute [push_cast] nbyt126 narr132 nsls132 nstr132 nbyt132 narr135 nsls135 nstr135 nbyt135 narr136 nint136 nsls136
attribute [push_cast] nstr136 nbyt136 narr143 nsls143 nstr143 nbyt143 narr145 nsls145 nstr145 nbyt145 narr149 nint149
attribute [push_cast] nsls149 nstr149 nbyt149 narr151 nint151 nsls151 nstr151 nbyt151
end Go.Proofs.Ytndojmpgadbefaa.Hv
