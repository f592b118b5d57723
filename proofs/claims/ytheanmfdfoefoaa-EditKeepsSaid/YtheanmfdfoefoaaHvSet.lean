/- The rules of the walk over an abstract heap, as one set. -/
import Derived.Test.YtheanmfdfoefoaaHvFn
set_option linter.unusedVariables false
set_option linter.unusedSimpArgs false
set_option warning.simp.varHead false
namespace Go.Proofs.Ytheanmfdfoefoaa.Hv
open Go Go.RowKit

attribute [push_cast] Hv.rk_nil Hv.rk_cons Hv.stepK Hv.ron_at Hv.cwp_draw Hv.rkD_nil Hv.rkD_cons Hv.effK Hv.contD_at Hv.pinsOk Hv.annOk Hv.newOf Hv.dstD Hv.isR
attribute [push_cast] Hv.gdval Hv.dval Hv.cwp_skip Hv.cwp_region Hv.cwp_seq Hv.cwp_block Hv.cwp_cond Hv.cwp_loop Hv.cwp_exit Hv.cwp_ret Hv.cwp_label Hv.den_nil
attribute [push_cast] Hv.den_sq_nrm Hv.den_sq_ret Hv.den_sq_ext Hv.den_bl_nrm Hv.den_bl_ret Hv.den_bl_ext Hv.den_lp_nrm Hv.den_lp_ret Hv.den_lp_ext Hv.gsem Hv.AV.said? Hv.AV.skip
attribute [push_cast] Hv.fop Hv.feff Hv.fapp Hv.acutM Hv.fval Hv.callee? Hv.AS.eval Hv.AS.get Hv.AS.set Hv.AS.put Hv.AS.keep Hv.AS.fresh
attribute [push_cast] Hv.AS.chg Hv.readA Hv.aidx Hv.alook Hv.aentry Hv.keyKind Hv.lkp Hv.upd_at Hv.AV.view Hv.AV.bool? Hv.AV.int? Hv.AV.str? Hv.AV.lit?
attribute [push_cast] Hv.AV.its? Hv.AV.num? Hv.isNilV Hv.isNilO Hv.apick Hv.alen Hv.acut Hv.acutL Hv.acutS Hv.acutR Hv.onum Hv.abin
attribute [push_cast] Hv.isShift Hv.aint Hv.aun Hv.astr Hv.anews Hv.fits Hv.piece Hv.headLen Hv.nonNil Hv.litArgs Hv.ptrEq Hv.boolEq
attribute [push_cast] Hv.aptr Hv.binv Hv.aeq Hv.AV.aggc? Hv.lits Hv.AV.cells Hv.AV.isOne Hv.setR Hv.abuild Hv.bsItems Hv.szN Hv.zeroA
attribute [push_cast] Hv.beginF Hv.HPost Hv.APost Hv.rets Hv.retv Hv.retA Hv.sealH Hv.sealO Value.oneCell' Value.cells List.map_cons List.map_nil
attribute [push_cast] List.drop_zero List.drop_succ_cons List.getElem?_cons_zero List.getElem?_cons_succ List.getElem?_map Option.map_some Option.map_none Option.bind_some Option.bind_none cond_true cond_false decide_true
attribute [push_cast] decide_false Nat.add_zero Nat.zero_add true_and and_true beq_self_eq_true if_true if_false ite_true ite_false Int.toNat_natCast Hv.beqE
attribute [push_cast] List.all_cons List.all_nil Bool.and_true Bool.true_and Bool.or_true Bool.true_or Bool.or_false Bool.false_or Bool.and_false Bool.false_and Int.natCast_nonneg List.length_cons
attribute [push_cast] List.length_nil List.length_map and_self eq_self List.take_zero List.take_succ_cons List.nil_append List.cons_append List.forall_mem_map implies_true Int.le_refl List.toList_toArray
attribute [push_cast] Int.toNat_zero Int.ofNat_le Int.ofNat_lt Bool.not_true Bool.not_false bne_self_eq_false not_false_eq_true Nat.le_refl Hv.beq_tf Hv.beq_ft Hv.range0 Hv.range1
attribute [push_cast] Hv.range2 Hv.range3 List.forall_mem_cons List.forall_mem_nil forall_eq List.mem_singleton Option.isSome_some Hv.elem_nil Hv.ble_self Hv.take_map_all Hv.elem_cons Hv.lk_nil
attribute [push_cast] Hv.lk_cons Hv.AV.view1 Hv.AV.viewR Hv.fetch Hv.fetchs Hv.retC Hv.HPostC Hv.APostC Hv.rdAt Hv.kmatchA Hv.ckIs Hv.aindexA
attribute [push_cast] Hv.eqFl Hv.kmatch Hv.veq Hv.veqs
attribute [push_cast] Hv.stopAt_nil Hv.stopAt_cons Hv.stopH_some Hv.stopH_none Hv.headR_region Hv.headR_seq Hv.headR_block Hv.headR_cond Hv.headR_loop Hv.headR_skip Hv.headR_exit Hv.headR_ret Hv.headR_label
theorem nbq0_1 (n : Nat) : (n == n + 1) = false := beq_eq_false_iff_ne.2 (by omega)
theorem nbq0_2 (n : Nat) : (n == n + 1 + 1) = false := beq_eq_false_iff_ne.2 (by omega)
theorem nbq0_3 (n : Nat) : (n == n + 1 + 1 + 1) = false := beq_eq_false_iff_ne.2 (by omega)
theorem nbq0_4 (n : Nat) : (n == n + 1 + 1 + 1 + 1) = false := beq_eq_false_iff_ne.2 (by omega)
theorem nbq0_5 (n : Nat) : (n == n + 1 + 1 + 1 + 1 + 1) = false := beq_eq_false_iff_ne.2 (by omega)
theorem nbq0_6 (n : Nat) : (n == n + 1 + 1 + 1 + 1 + 1 + 1) = false := beq_eq_false_iff_ne.2 (by omega)
theorem nbq0_7 (n : Nat) : (n == n + 1 + 1 + 1 + 1 + 1 + 1 + 1) = false := beq_eq_false_iff_ne.2 (by omega)
theorem nbq0_8 (n : Nat) : (n == n + 1 + 1 + 1 + 1 + 1 + 1 + 1 + 1) = false := beq_eq_false_iff_ne.2 (by omega)
theorem nbq0_9 (n : Nat) : (n == n + 1 + 1 + 1 + 1 + 1 + 1 + 1 + 1 + 1) = false := beq_eq_false_iff_ne.2 (by omega)
theorem nbq1_0 (n : Nat) : (n + 1 == n) = false := beq_eq_false_iff_ne.2 (by omega)
theorem nbq1_2 (n : Nat) : (n + 1 == n + 1 + 1) = false := beq_eq_false_iff_ne.2 (by omega)
theorem nbq1_3 (n : Nat) : (n + 1 == n + 1 + 1 + 1) = false := beq_eq_false_iff_ne.2 (by omega)
theorem nbq1_4 (n : Nat) : (n + 1 == n + 1 + 1 + 1 + 1) = false := beq_eq_false_iff_ne.2 (by omega)
theorem nbq1_5 (n : Nat) : (n + 1 == n + 1 + 1 + 1 + 1 + 1) = false := beq_eq_false_iff_ne.2 (by omega)
theorem nbq1_6 (n : Nat) : (n + 1 == n + 1 + 1 + 1 + 1 + 1 + 1) = false := beq_eq_false_iff_ne.2 (by omega)
theorem nbq1_7 (n : Nat) : (n + 1 == n + 1 + 1 + 1 + 1 + 1 + 1 + 1) = false := beq_eq_false_iff_ne.2 (by omega)
theorem nbq1_8 (n : Nat) : (n + 1 == n + 1 + 1 + 1 + 1 + 1 + 1 + 1 + 1) = false := beq_eq_false_iff_ne.2 (by omega)
theorem nbq1_9 (n : Nat) : (n + 1 == n + 1 + 1 + 1 + 1 + 1 + 1 + 1 + 1 + 1) = false := beq_eq_false_iff_ne.2 (by omega)
theorem nbq2_0 (n : Nat) : (n + 1 + 1 == n) = false := beq_eq_false_iff_ne.2 (by omega)
theorem nbq2_1 (n : Nat) : (n + 1 + 1 == n + 1) = false := beq_eq_false_iff_ne.2 (by omega)
theorem nbq2_3 (n : Nat) : (n + 1 + 1 == n + 1 + 1 + 1) = false := beq_eq_false_iff_ne.2 (by omega)
theorem nbq2_4 (n : Nat) : (n + 1 + 1 == n + 1 + 1 + 1 + 1) = false := beq_eq_false_iff_ne.2 (by omega)
theorem nbq2_5 (n : Nat) : (n + 1 + 1 == n + 1 + 1 + 1 + 1 + 1) = false := beq_eq_false_iff_ne.2 (by omega)
theorem nbq2_6 (n : Nat) : (n + 1 + 1 == n + 1 + 1 + 1 + 1 + 1 + 1) = false := beq_eq_false_iff_ne.2 (by omega)
theorem nbq2_7 (n : Nat) : (n + 1 + 1 == n + 1 + 1 + 1 + 1 + 1 + 1 + 1) = false := beq_eq_false_iff_ne.2 (by omega)
theorem nbq2_8 (n : Nat) : (n + 1 + 1 == n + 1 + 1 + 1 + 1 + 1 + 1 + 1 + 1) = false := beq_eq_false_iff_ne.2 (by omega)
theorem nbq2_9 (n : Nat) : (n + 1 + 1 == n + 1 + 1 + 1 + 1 + 1 + 1 + 1 + 1 + 1) = false := beq_eq_false_iff_ne.2 (by omega)
theorem nbq3_0 (n : Nat) : (n + 1 + 1 + 1 == n) = false := beq_eq_false_iff_ne.2 (by omega)
theorem nbq3_1 (n : Nat) : (n + 1 + 1 + 1 == n + 1) = false := beq_eq_false_iff_ne.2 (by omega)
theorem nbq3_2 (n : Nat) : (n + 1 + 1 + 1 == n + 1 + 1) = false := beq_eq_false_iff_ne.2 (by omega)
theorem nbq3_4 (n : Nat) : (n + 1 + 1 + 1 == n + 1 + 1 + 1 + 1) = false := beq_eq_false_iff_ne.2 (by omega)
theorem nbq3_5 (n : Nat) : (n + 1 + 1 + 1 == n + 1 + 1 + 1 + 1 + 1) = false := beq_eq_false_iff_ne.2 (by omega)
theorem nbq3_6 (n : Nat) : (n + 1 + 1 + 1 == n + 1 + 1 + 1 + 1 + 1 + 1) = false := beq_eq_false_iff_ne.2 (by omega)
theorem nbq3_7 (n : Nat) : (n + 1 + 1 + 1 == n + 1 + 1 + 1 + 1 + 1 + 1 + 1) = false := beq_eq_false_iff_ne.2 (by omega)
theorem nbq3_8 (n : Nat) : (n + 1 + 1 + 1 == n + 1 + 1 + 1 + 1 + 1 + 1 + 1 + 1) = false := beq_eq_false_iff_ne.2 (by omega)
theorem nbq3_9 (n : Nat) : (n + 1 + 1 + 1 == n + 1 + 1 + 1 + 1 + 1 + 1 + 1 + 1 + 1) = false := beq_eq_false_iff_ne.2 (by omega)
theorem nbq4_0 (n : Nat) : (n + 1 + 1 + 1 + 1 == n) = false := beq_eq_false_iff_ne.2 (by omega)
theorem nbq4_1 (n : Nat) : (n + 1 + 1 + 1 + 1 == n + 1) = false := beq_eq_false_iff_ne.2 (by omega)
theorem nbq4_2 (n : Nat) : (n + 1 + 1 + 1 + 1 == n + 1 + 1) = false := beq_eq_false_iff_ne.2 (by omega)
theorem nbq4_3 (n : Nat) : (n + 1 + 1 + 1 + 1 == n + 1 + 1 + 1) = false := beq_eq_false_iff_ne.2 (by omega)
theorem nbq4_5 (n : Nat) : (n + 1 + 1 + 1 + 1 == n + 1 + 1 + 1 + 1 + 1) = false := beq_eq_false_iff_ne.2 (by omega)
theorem nbq4_6 (n : Nat) : (n + 1 + 1 + 1 + 1 == n + 1 + 1 + 1 + 1 + 1 + 1) = false := beq_eq_false_iff_ne.2 (by omega)
theorem nbq4_7 (n : Nat) : (n + 1 + 1 + 1 + 1 == n + 1 + 1 + 1 + 1 + 1 + 1 + 1) = false := beq_eq_false_iff_ne.2 (by omega)
theorem nbq4_8 (n : Nat) : (n + 1 + 1 + 1 + 1 == n + 1 + 1 + 1 + 1 + 1 + 1 + 1 + 1) = false := beq_eq_false_iff_ne.2 (by omega)
theorem nbq4_9 (n : Nat) : (n + 1 + 1 + 1 + 1 == n + 1 + 1 + 1 + 1 + 1 + 1 + 1 + 1 + 1) = false := beq_eq_false_iff_ne.2 (by omega)
theorem nbq5_0 (n : Nat) : (n + 1 + 1 + 1 + 1 + 1 == n) = false := beq_eq_false_iff_ne.2 (by omega)
theorem nbq5_1 (n : Nat) : (n + 1 + 1 + 1 + 1 + 1 == n + 1) = false := beq_eq_false_iff_ne.2 (by omega)
theorem nbq5_2 (n : Nat) : (n + 1 + 1 + 1 + 1 + 1 == n + 1 + 1) = false := beq_eq_false_iff_ne.2 (by omega)
theorem nbq5_3 (n : Nat) : (n + 1 + 1 + 1 + 1 + 1 == n + 1 + 1 + 1) = false := beq_eq_false_iff_ne.2 (by omega)
theorem nbq5_4 (n : Nat) : (n + 1 + 1 + 1 + 1 + 1 == n + 1 + 1 + 1 + 1) = false := beq_eq_false_iff_ne.2 (by omega)
theorem nbq5_6 (n : Nat) : (n + 1 + 1 + 1 + 1 + 1 == n + 1 + 1 + 1 + 1 + 1 + 1) = false := beq_eq_false_iff_ne.2 (by omega)
theorem nbq5_7 (n : Nat) : (n + 1 + 1 + 1 + 1 + 1 == n + 1 + 1 + 1 + 1 + 1 + 1 + 1) = false := beq_eq_false_iff_ne.2 (by omega)
theorem nbq5_8 (n : Nat) : (n + 1 + 1 + 1 + 1 + 1 == n + 1 + 1 + 1 + 1 + 1 + 1 + 1 + 1) = false := beq_eq_false_iff_ne.2 (by omega)
theorem nbq5_9 (n : Nat) : (n + 1 + 1 + 1 + 1 + 1 == n + 1 + 1 + 1 + 1 + 1 + 1 + 1 + 1 + 1) = false := beq_eq_false_iff_ne.2 (by omega)
theorem nbq6_0 (n : Nat) : (n + 1 + 1 + 1 + 1 + 1 + 1 == n) = false := beq_eq_false_iff_ne.2 (by omega)
theorem nbq6_1 (n : Nat) : (n + 1 + 1 + 1 + 1 + 1 + 1 == n + 1) = false := beq_eq_false_iff_ne.2 (by omega)
theorem nbq6_2 (n : Nat) : (n + 1 + 1 + 1 + 1 + 1 + 1 == n + 1 + 1) = false := beq_eq_false_iff_ne.2 (by omega)
theorem nbq6_3 (n : Nat) : (n + 1 + 1 + 1 + 1 + 1 + 1 == n + 1 + 1 + 1) = false := beq_eq_false_iff_ne.2 (by omega)
theorem nbq6_4 (n : Nat) : (n + 1 + 1 + 1 + 1 + 1 + 1 == n + 1 + 1 + 1 + 1) = false := beq_eq_false_iff_ne.2 (by omega)
theorem nbq6_5 (n : Nat) : (n + 1 + 1 + 1 + 1 + 1 + 1 == n + 1 + 1 + 1 + 1 + 1) = false := beq_eq_false_iff_ne.2 (by omega)
theorem nbq6_7 (n : Nat) : (n + 1 + 1 + 1 + 1 + 1 + 1 == n + 1 + 1 + 1 + 1 + 1 + 1 + 1) = false := beq_eq_false_iff_ne.2 (by omega)
theorem nbq6_8 (n : Nat) : (n + 1 + 1 + 1 + 1 + 1 + 1 == n + 1 + 1 + 1 + 1 + 1 + 1 + 1 + 1) = false := beq_eq_false_iff_ne.2 (by omega)
theorem nbq6_9 (n : Nat) : (n + 1 + 1 + 1 + 1 + 1 + 1 == n + 1 + 1 + 1 + 1 + 1 + 1 + 1 + 1 + 1) = false := beq_eq_false_iff_ne.2 (by omega)
theorem nbq7_0 (n : Nat) : (n + 1 + 1 + 1 + 1 + 1 + 1 + 1 == n) = false := beq_eq_false_iff_ne.2 (by omega)
theorem nbq7_1 (n : Nat) : (n + 1 + 1 + 1 + 1 + 1 + 1 + 1 == n + 1) = false := beq_eq_false_iff_ne.2 (by omega)
theorem nbq7_2 (n : Nat) : (n + 1 + 1 + 1 + 1 + 1 + 1 + 1 == n + 1 + 1) = false := beq_eq_false_iff_ne.2 (by omega)
theorem nbq7_3 (n : Nat) : (n + 1 + 1 + 1 + 1 + 1 + 1 + 1 == n + 1 + 1 + 1) = false := beq_eq_false_iff_ne.2 (by omega)
theorem nbq7_4 (n : Nat) : (n + 1 + 1 + 1 + 1 + 1 + 1 + 1 == n + 1 + 1 + 1 + 1) = false := beq_eq_false_iff_ne.2 (by omega)
theorem nbq7_5 (n : Nat) : (n + 1 + 1 + 1 + 1 + 1 + 1 + 1 == n + 1 + 1 + 1 + 1 + 1) = false := beq_eq_false_iff_ne.2 (by omega)
theorem nbq7_6 (n : Nat) : (n + 1 + 1 + 1 + 1 + 1 + 1 + 1 == n + 1 + 1 + 1 + 1 + 1 + 1) = false := beq_eq_false_iff_ne.2 (by omega)
theorem nbq7_8 (n : Nat) : (n + 1 + 1 + 1 + 1 + 1 + 1 + 1 == n + 1 + 1 + 1 + 1 + 1 + 1 + 1 + 1) = false := beq_eq_false_iff_ne.2 (by omega)
theorem nbq7_9 (n : Nat) : (n + 1 + 1 + 1 + 1 + 1 + 1 + 1 == n + 1 + 1 + 1 + 1 + 1 + 1 + 1 + 1 + 1) = false := beq_eq_false_iff_ne.2 (by omega)
theorem nbq8_0 (n : Nat) : (n + 1 + 1 + 1 + 1 + 1 + 1 + 1 + 1 == n) = false := beq_eq_false_iff_ne.2 (by omega)
theorem nbq8_1 (n : Nat) : (n + 1 + 1 + 1 + 1 + 1 + 1 + 1 + 1 == n + 1) = false := beq_eq_false_iff_ne.2 (by omega)
theorem nbq8_2 (n : Nat) : (n + 1 + 1 + 1 + 1 + 1 + 1 + 1 + 1 == n + 1 + 1) = false := beq_eq_false_iff_ne.2 (by omega)
theorem nbq8_3 (n : Nat) : (n + 1 + 1 + 1 + 1 + 1 + 1 + 1 + 1 == n + 1 + 1 + 1) = false := beq_eq_false_iff_ne.2 (by omega)
theorem nbq8_4 (n : Nat) : (n + 1 + 1 + 1 + 1 + 1 + 1 + 1 + 1 == n + 1 + 1 + 1 + 1) = false := beq_eq_false_iff_ne.2 (by omega)
theorem nbq8_5 (n : Nat) : (n + 1 + 1 + 1 + 1 + 1 + 1 + 1 + 1 == n + 1 + 1 + 1 + 1 + 1) = false := beq_eq_false_iff_ne.2 (by omega)
theorem nbq8_6 (n : Nat) : (n + 1 + 1 + 1 + 1 + 1 + 1 + 1 + 1 == n + 1 + 1 + 1 + 1 + 1 + 1) = false := beq_eq_false_iff_ne.2 (by omega)
theorem nbq8_7 (n : Nat) : (n + 1 + 1 + 1 + 1 + 1 + 1 + 1 + 1 == n + 1 + 1 + 1 + 1 + 1 + 1 + 1) = false := beq_eq_false_iff_ne.2 (by omega)
theorem nbq8_9 (n : Nat) : (n + 1 + 1 + 1 + 1 + 1 + 1 + 1 + 1 == n + 1 + 1 + 1 + 1 + 1 + 1 + 1 + 1 + 1) = false := beq_eq_false_iff_ne.2 (by omega)
theorem nbq9_0 (n : Nat) : (n + 1 + 1 + 1 + 1 + 1 + 1 + 1 + 1 + 1 == n) = false := beq_eq_false_iff_ne.2 (by omega)
theorem nbq9_1 (n : Nat) : (n + 1 + 1 + 1 + 1 + 1 + 1 + 1 + 1 + 1 == n + 1) = false := beq_eq_false_iff_ne.2 (by omega)
theorem nbq9_2 (n : Nat) : (n + 1 + 1 + 1 + 1 + 1 + 1 + 1 + 1 + 1 == n + 1 + 1) = false := beq_eq_false_iff_ne.2 (by omega)
theorem nbq9_3 (n : Nat) : (n + 1 + 1 + 1 + 1 + 1 + 1 + 1 + 1 + 1 == n + 1 + 1 + 1) = false := beq_eq_false_iff_ne.2 (by omega)
theorem nbq9_4 (n : Nat) : (n + 1 + 1 + 1 + 1 + 1 + 1 + 1 + 1 + 1 == n + 1 + 1 + 1 + 1) = false := beq_eq_false_iff_ne.2 (by omega)
theorem nbq9_5 (n : Nat) : (n + 1 + 1 + 1 + 1 + 1 + 1 + 1 + 1 + 1 == n + 1 + 1 + 1 + 1 + 1) = false := beq_eq_false_iff_ne.2 (by omega)
theorem nbq9_6 (n : Nat) : (n + 1 + 1 + 1 + 1 + 1 + 1 + 1 + 1 + 1 == n + 1 + 1 + 1 + 1 + 1 + 1) = false := beq_eq_false_iff_ne.2 (by omega)
theorem nbq9_7 (n : Nat) : (n + 1 + 1 + 1 + 1 + 1 + 1 + 1 + 1 + 1 == n + 1 + 1 + 1 + 1 + 1 + 1 + 1) = false := beq_eq_false_iff_ne.2 (by omega)
theorem nbq9_8 (n : Nat) : (n + 1 + 1 + 1 + 1 + 1 + 1 + 1 + 1 + 1 == n + 1 + 1 + 1 + 1 + 1 + 1 + 1 + 1) = false := beq_eq_false_iff_ne.2 (by omega)
attribute [push_cast] Hv.ashift Hv.fmore Hv.kfind Hv.keyKindH Hv.isVar Hv.acutA
attribute [push_cast] Hv.acutC Hv.acap
attribute [push_cast] Nat.mul_one Nat.one_mul Nat.zero_mul Nat.mul_zero
/-- For a walk with omega as its discharger. -/
theorem neB {a b : Nat} (h : a ≠ b) : (a == b) = false := beq_eq_false_iff_ne.2 h
end Go.Proofs.Ytheanmfdfoefoaa.Hv
