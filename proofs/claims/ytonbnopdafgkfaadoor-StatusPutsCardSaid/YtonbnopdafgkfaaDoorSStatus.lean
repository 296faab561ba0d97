/- Package status: what Get comes to, and that the law StatusGets answers true of every text; no conditions. -/
import Derived.Test.YtonbnopdafgkfaaDoorSOct
import Derived.Test.YtonbnopdafgkfaaDoorVmZ
namespace Go.Vm.S
open Go Go.Vm
set_option linter.unusedSimpArgs false
set_option linter.unusedVariables false
theorem p_awake : (evT E).pure f_law23_awake [] = some (.bool true) := pure_run tame 20 (by kernel_rfl) rfl rfl
theorem p_wrong (k n : Int) : (evT E).pure f_status_wrong [.int .i64 k, .int .i64 n] = some (errAV (atE n (newE k))) := by
  refine pure_fn tame e_status_wrong rfl rfl (errAV_pu _) ?_
  simp only [a_status_wrong, p_New, p_At, errAV_pu, errAV_share, errAV_share1, errAV_leaf, post_n, post_e, post_r, post_seq, post_block, post_cond, post_skip, post_exit, post_ret, post_ops, inBlk_e, inBlk_r, done, doneQ_r, doneP, donePQ_r, xcons, xnil, step, stepGo, rds, rd, updO, upd, init, semH, sem, semT, sMv, sPick, sNil, sAgg, sLit, sBin, neg, sBeq, sEqs, sNilI, sNilP, sNilF, sNot, sNeg, sXor, sConv, sConvS, sB2s, sMkI, sMkF, sRep, sSlS, sSlL, sFa, sFld, sIxA, sIxS, sIxG, sAsrt, sExt, sLdI, sLenS, sLenL, sMx, sMn, sApp, sAppS, sBox, sFrs, sIni, sLit0, sIxP, sS2b, sCallV, hLd, hSt, hBox, hNew, hMk, hCallV, bin, binI, binS, bnd, shiftI, takeC, foldO, mx2, mn2, isTupL, setsA, fillA, List.getElem?_cons_zero, List.getElem?_cons_succ, List.getElem?_nil, List.length_cons, List.length_nil, shareL, share1L, cellsL, leafL, puLL, puLN, List.all_cons, List.all_nil, Bool.and_true, Bool.true_and, Bool.and_false, Bool.false_and, Bool.or_true, Bool.true_or, Bool.or_false, Bool.false_or, Bool.and_self, Bool.not_true, Bool.not_false, if_true, if_false, List.map_cons, List.map_nil, List.cons_append, List.nil_append, List.append_nil, leave, resOf, res1, resL, Hp.cut_self, ite_self, reduceIte, reduceCtorEq, Nat.reduceAdd, Nat.reduceMul, Nat.reduceEqDiff, Nat.reduceLT, Nat.reduceLeDiff, Nat.reduceSub, List.drop_zero, List.drop_succ_cons, List.take_zero, List.take_succ_cons, Int.toNat_zero, decide_true, decide_false, decide_eq_true_eq, decide_eq_false_iff_not, Bool.false_eq_true, and_true, true_and, and_self, and_false, false_and, Option.some.injEq, Nat.add_zero, Nat.zero_add, beq_self_eq_true, ne_eq, not_true_eq_false, not_false_eq_true, noOwnL, cellOkL, tgL, Hp.cut_set_self, List.set_cons_zero, List.set_cons_succ, List.length_set]
def stAV (l c n : Int) : AV := .agg [.int .u64 l, .int .i64 c, .int .i64 n]
theorem p_StGet_short (s : List UInt8) (h : s.length < 16) : (evT E).pure f_status_Get [.str s] = some (.tup [stAV 0 0 0, (Er.plc s.length (.cls 2)).av]) := by
  refine pure_fn tame e_status_Get rfl rfl rfl ?_
  have k1 : (s.length : Int) < 16 := by omega
  have e1 : errAV (atE s.length (newE 2)) = (Er.plc s.length (.cls 2)).av := rfl
  simp only [a_status_Get, p_wrong, e1, Er.av_pu, Er.av_share, Er.av_share1, Er.av_leaf, Er.av_tup, k1, stAV, m_new', m_set', Hp.nx_new, Hp.nx_set, Option.map_some, post_n, post_e, post_r, post_seq, post_block, post_cond, post_skip, post_exit, post_ret, post_ops, inBlk_e, inBlk_r, done, doneQ_r, doneP, donePQ_r, xcons, xnil, step, stepGo, rds, rd, updO, upd, init, semH, sem, semT, sMv, sPick, sNil, sAgg, sLit, sBin, neg, sBeq, sEqs, sNilI, sNilP, sNilF, sNot, sNeg, sXor, sConv, sConvS, sB2s, sMkI, sMkF, sRep, sSlS, sSlL, sFa, sFld, sIxA, sIxS, sIxG, sAsrt, sExt, sLdI, sLenS, sLenL, sMx, sMn, sApp, sAppS, sBox, sFrs, sIni, sLit0, sIxP, sS2b, sCallV, hLd, hSt, hBox, hNew, hMk, hCallV, bin, binI, binS, bnd, shiftI, takeC, foldO, mx2, mn2, isTupL, setsA, fillA, List.getElem?_cons_zero, List.getElem?_cons_succ, List.getElem?_nil, List.length_cons, List.length_nil, shareL, share1L, cellsL, leafL, puLL, puLN, List.all_cons, List.all_nil, Bool.and_true, Bool.true_and, Bool.and_false, Bool.false_and, Bool.or_true, Bool.true_or, Bool.or_false, Bool.false_or, Bool.and_self, Bool.not_true, Bool.not_false, if_true, if_false, List.map_cons, List.map_nil, List.cons_append, List.nil_append, List.append_nil, leave, resOf, res1, resL, Hp.cut_self, ite_self, reduceIte, reduceCtorEq, Nat.reduceAdd, Nat.reduceMul, Nat.reduceEqDiff, Nat.reduceLT, Nat.reduceLeDiff, Nat.reduceSub, List.drop_zero, List.drop_succ_cons, List.take_zero, List.take_succ_cons, Int.toNat_zero, decide_true, decide_false, decide_eq_true_eq, decide_eq_false_iff_not, Bool.false_eq_true, and_true, true_and, and_self, and_false, false_and, Option.some.injEq, Nat.add_zero, Nat.zero_add, beq_self_eq_true, ne_eq, not_true_eq_false, not_false_eq_true, noOwnL, cellOkL, tgL, Hp.cut_set_self, List.set_cons_zero, List.set_cons_succ, List.length_set]
theorem p_StGet_long (s : List UInt8) (h : 16 < s.length) : (evT E).pure f_status_Get [.str s] = some (.tup [stAV 0 0 0, (Er.plc 16 (.cls 4)).av]) := by
  refine pure_fn tame e_status_Get rfl rfl rfl ?_
  have k1 : ¬ ((s.length : Int) < 16) := by omega
  have k2 : (s.length : Int) > 16 := by omega
  have e1 : errAV (atE 16 (newE 4)) = (Er.plc 16 (.cls 4)).av := rfl
  simp only [a_status_Get, p_wrong, e1, Er.av_pu, Er.av_share, Er.av_share1, Er.av_leaf, Er.av_tup, k1, k2, stAV, m_new', m_set', Hp.nx_new, Hp.nx_set, Option.map_some, post_n, post_e, post_r, post_seq, post_block, post_cond, post_skip, post_exit, post_ret, post_ops, inBlk_e, inBlk_r, done, doneQ_r, doneP, donePQ_r, xcons, xnil, step, stepGo, rds, rd, updO, upd, init, semH, sem, semT, sMv, sPick, sNil, sAgg, sLit, sBin, neg, sBeq, sEqs, sNilI, sNilP, sNilF, sNot, sNeg, sXor, sConv, sConvS, sB2s, sMkI, sMkF, sRep, sSlS, sSlL, sFa, sFld, sIxA, sIxS, sIxG, sAsrt, sExt, sLdI, sLenS, sLenL, sMx, sMn, sApp, sAppS, sBox, sFrs, sIni, sLit0, sIxP, sS2b, sCallV, hLd, hSt, hBox, hNew, hMk, hCallV, bin, binI, binS, bnd, shiftI, takeC, foldO, mx2, mn2, isTupL, setsA, fillA, List.getElem?_cons_zero, List.getElem?_cons_succ, List.getElem?_nil, List.length_cons, List.length_nil, shareL, share1L, cellsL, leafL, puLL, puLN, List.all_cons, List.all_nil, Bool.and_true, Bool.true_and, Bool.and_false, Bool.false_and, Bool.or_true, Bool.true_or, Bool.or_false, Bool.false_or, Bool.and_self, Bool.not_true, Bool.not_false, if_true, if_false, List.map_cons, List.map_nil, List.cons_append, List.nil_append, List.append_nil, leave, resOf, res1, resL, Hp.cut_self, ite_self, reduceIte, reduceCtorEq, Nat.reduceAdd, Nat.reduceMul, Nat.reduceEqDiff, Nat.reduceLT, Nat.reduceLeDiff, Nat.reduceSub, List.drop_zero, List.drop_succ_cons, List.take_zero, List.take_succ_cons, Int.toNat_zero, decide_true, decide_false, decide_eq_true_eq, decide_eq_false_iff_not, Bool.false_eq_true, and_true, true_and, and_self, and_false, false_and, Option.some.injEq, Nat.add_zero, Nat.zero_add, beq_self_eq_true, ne_eq, not_true_eq_false, not_false_eq_true, noOwnL, cellOkL, tgL, Hp.cut_set_self, List.set_cons_zero, List.set_cons_succ, List.length_set]
theorem p_StGet (s : List UInt8) (h : s.length = 16) : (evT E).pure f_status_Get [.str s] = some (.tup [stAV (beNat ((s.drop 0).take 8)) (beNat ((s.drop 8).take 4)) (beNat ((s.drop 12).take 4)), .nili]) := by
  refine pure_fn tame e_status_Get rfl rfl rfl ?_
  have k1 : ¬ ((s.length : Int) < 16) := by omega
  have k2 : ¬ ((s.length : Int) > 16) := by omega
  have g1 := p_Get s 0 8 (by simp [Sz]) (by omega) (by omega)
  have g2 := p_Get s 8 4 (by simp [Sz]) (by omega) (by omega)
  have g3 := p_Get s 12 4 (by simp [Sz]) (by omega) (by omega)
  have b2 := beNat_lt ((s.drop 8).take 4)
  have b3 := beNat_lt ((s.drop 12).take 4)
  have l2 : ((s.drop 8).take 4).length = 4 := by simp; omega
  have l3 : ((s.drop 12).take 4).length = 4 := by simp; omega
  rw [l2] at b2
  rw [l3] at b3
  have w2 : IntKind.i64.wrap ((beNat ((s.drop 8).take 4) : Nat) : Int) = (beNat ((s.drop 8).take 4) : Nat) := wI64 (by omega) (by omega)
  have w3 : IntKind.i64.wrap ((beNat ((s.drop 12).take 4) : Nat) : Int) = (beNat ((s.drop 12).take 4) : Nat) := wI64 (by omega) (by omega)
  simp only [Int.cast_ofNat_Int, Int.natCast_zero] at g1 g2 g3
  generalize (beNat ((s.drop 0).take 8) : Int) = x1 at *
  generalize (beNat ((s.drop 8).take 4) : Int) = x2 at *
  generalize (beNat ((s.drop 12).take 4) : Int) = x3 at *
  simp only [a_status_Get, g1, g2, g3, k1, k2, w2, w3, stAV, m_new', m_set', Hp.nx_new, Hp.nx_set, Option.map_some, post_n, post_e, post_r, post_seq, post_block, post_cond, post_skip, post_exit, post_ret, post_ops, inBlk_e, inBlk_r, done, doneQ_r, doneP, donePQ_r, xcons, xnil, step, stepGo, rds, rd, updO, upd, init, semH, sem, semT, sMv, sPick, sNil, sAgg, sLit, sBin, neg, sBeq, sEqs, sNilI, sNilP, sNilF, sNot, sNeg, sXor, sConv, sConvS, sB2s, sMkI, sMkF, sRep, sSlS, sSlL, sFa, sFld, sIxA, sIxS, sIxG, sAsrt, sExt, sLdI, sLenS, sLenL, sMx, sMn, sApp, sAppS, sBox, sFrs, sIni, sLit0, sIxP, sS2b, sCallV, hLd, hSt, hBox, hNew, hMk, hCallV, bin, binI, binS, bnd, shiftI, takeC, foldO, mx2, mn2, isTupL, setsA, fillA, List.getElem?_cons_zero, List.getElem?_cons_succ, List.getElem?_nil, List.length_cons, List.length_nil, shareL, share1L, cellsL, leafL, puLL, puLN, List.all_cons, List.all_nil, Bool.and_true, Bool.true_and, Bool.and_false, Bool.false_and, Bool.or_true, Bool.true_or, Bool.or_false, Bool.false_or, Bool.and_self, Bool.not_true, Bool.not_false, if_true, if_false, List.map_cons, List.map_nil, List.cons_append, List.nil_append, List.append_nil, leave, resOf, res1, resL, Hp.cut_self, ite_self, reduceIte, reduceCtorEq, Nat.reduceAdd, Nat.reduceMul, Nat.reduceEqDiff, Nat.reduceLT, Nat.reduceLeDiff, Nat.reduceSub, List.drop_zero, List.drop_succ_cons, List.take_zero, List.take_succ_cons, Int.toNat_zero, decide_true, decide_false, decide_eq_true_eq, decide_eq_false_iff_not, Bool.false_eq_true, and_true, true_and, and_self, and_false, false_and, Option.some.injEq, Nat.add_zero, Nat.zero_add, beq_self_eq_true, ne_eq, not_true_eq_false, not_false_eq_true, noOwnL, cellOkL, tgL, Hp.cut_set_self, List.set_cons_zero, List.set_cons_succ, List.length_set]
theorem p_Bytes (a b c : Nat) (ha : a < 18446744073709551616) (hb : b < 4294967296) (hc : c < 4294967296) : (evT E).pure f_ref23_Bytes [stAV a b c] = some (.str (textL a 8 ++ textL b 4 ++ textL c 4)) := by
  refine pure_fn tame e_ref23_Bytes rfl rfl rfl ?_
  have t1 := p_Text a 8 ha (by omega)
  have t2 := p_Text b 4 (by omega) (by omega)
  have t3 := p_Text c 4 (by omega) (by omega)
  have w2 : IntKind.u64.wrap (b : Int) = b := wU64 (by omega) (by omega)
  have w3 : IntKind.u64.wrap (c : Int) = c := wU64 (by omega) (by omega)
  have q1 : (textL a 8).length + (textL b 4).length ≤ 9223372036854775807 := by simp [textL_length]
  have q2 : (textL a 8 ++ textL b 4).length + (textL c 4).length ≤ 9223372036854775807 := by simp [textL_length]
  simp only [Int.cast_ofNat_Int] at t1 t2 t3
  simp only [a_ref23_Bytes, stAV, t1, t2, t3, w2, w3, q1, q2, post_n, post_e, post_r, post_seq, post_block, post_cond, post_skip, post_exit, post_ret, post_ops, inBlk_e, inBlk_r, done, doneQ_r, doneP, donePQ_r, xcons, xnil, step, stepGo, rds, rd, updO, upd, init, semH, sem, semT, sMv, sPick, sNil, sAgg, sLit, sBin, neg, sBeq, sEqs, sNilI, sNilP, sNilF, sNot, sNeg, sXor, sConv, sConvS, sB2s, sMkI, sMkF, sRep, sSlS, sSlL, sFa, sFld, sIxA, sIxS, sIxG, sAsrt, sExt, sLdI, sLenS, sLenL, sMx, sMn, sApp, sAppS, sBox, sFrs, sIni, sLit0, sIxP, sS2b, sCallV, hLd, hSt, hBox, hNew, hMk, hCallV, bin, binI, binS, bnd, shiftI, takeC, foldO, mx2, mn2, isTupL, setsA, fillA, List.getElem?_cons_zero, List.getElem?_cons_succ, List.getElem?_nil, List.length_cons, List.length_nil, shareL, share1L, cellsL, leafL, puLL, puLN, List.all_cons, List.all_nil, Bool.and_true, Bool.true_and, Bool.and_false, Bool.false_and, Bool.or_true, Bool.true_or, Bool.or_false, Bool.false_or, Bool.and_self, Bool.not_true, Bool.not_false, if_true, if_false, List.map_cons, List.map_nil, List.cons_append, List.nil_append, List.append_nil, leave, resOf, res1, resL, Hp.cut_self, ite_self, reduceIte, reduceCtorEq, Nat.reduceAdd, Nat.reduceMul, Nat.reduceEqDiff, Nat.reduceLT, Nat.reduceLeDiff, Nat.reduceSub, List.drop_zero, List.drop_succ_cons, List.take_zero, List.take_succ_cons, Int.toNat_zero, decide_true, decide_false, decide_eq_true_eq, decide_eq_false_iff_not, Bool.false_eq_true, and_true, true_and, and_self, and_false, false_and, Option.some.injEq, Nat.add_zero, Nat.zero_add, beq_self_eq_true, ne_eq, not_true_eq_false, not_false_eq_true, noOwnL, cellOkL, tgL, Hp.cut_set_self, List.set_cons_zero, List.set_cons_succ, List.length_set]
theorem p_StatusGets (s : List UInt8) : (evT E).pure f_law23_StatusGets [.str s] = some (.bool true) := by
  refine pure_fn tame e_law23_StatusGets rfl rfl rfl ?_
  by_cases h1 : s.length > 100
  · have k1 : (s.length : Int) > 100 := by omega
    simp only [a_law23_StatusGets, p_awake, k1, post_n, post_e, post_r, post_seq, post_block, post_cond, post_skip, post_exit, post_ret, post_ops, inBlk_e, inBlk_r, done, doneQ_r, doneP, donePQ_r, xcons, xnil, step, stepGo, rds, rd, updO, upd, init, semH, sem, semT, sMv, sPick, sNil, sAgg, sLit, sBin, neg, sBeq, sEqs, sNilI, sNilP, sNilF, sNot, sNeg, sXor, sConv, sConvS, sB2s, sMkI, sMkF, sRep, sSlS, sSlL, sFa, sFld, sIxA, sIxS, sIxG, sAsrt, sExt, sLdI, sLenS, sLenL, sMx, sMn, sApp, sAppS, sBox, sFrs, sIni, sLit0, sIxP, sS2b, sCallV, hLd, hSt, hBox, hNew, hMk, hCallV, bin, binI, binS, bnd, shiftI, takeC, foldO, mx2, mn2, isTupL, setsA, fillA, List.getElem?_cons_zero, List.getElem?_cons_succ, List.getElem?_nil, List.length_cons, List.length_nil, shareL, share1L, cellsL, leafL, puLL, puLN, List.all_cons, List.all_nil, Bool.and_true, Bool.true_and, Bool.and_false, Bool.false_and, Bool.or_true, Bool.true_or, Bool.or_false, Bool.false_or, Bool.and_self, Bool.not_true, Bool.not_false, if_true, if_false, List.map_cons, List.map_nil, List.cons_append, List.nil_append, List.append_nil, leave, resOf, res1, resL, Hp.cut_self, ite_self, reduceIte, reduceCtorEq, Nat.reduceAdd, Nat.reduceMul, Nat.reduceEqDiff, Nat.reduceLT, Nat.reduceLeDiff, Nat.reduceSub, List.drop_zero, List.drop_succ_cons, List.take_zero, List.take_succ_cons, Int.toNat_zero, decide_true, decide_false, decide_eq_true_eq, decide_eq_false_iff_not, Bool.false_eq_true, and_true, true_and, and_self, and_false, false_and, Option.some.injEq, Nat.add_zero, Nat.zero_add, beq_self_eq_true, ne_eq, not_true_eq_false, not_false_eq_true, noOwnL, cellOkL, tgL, Hp.cut_set_self, List.set_cons_zero, List.set_cons_succ, List.length_set]
  have k1 : ¬ ((s.length : Int) > 100) := by omega
  by_cases h2 : s.length < 16
  · have k2 : (s.length : Int) < 16 := by omega
    have t := p_StGet_short s h2
    have o := p_Of (some (.plc s.length (.cls 2)))
    simp only [errAV, ofAV, Er.cl, Er.fs, Er.fp] at o
    simp only [a_law23_StatusGets, p_awake, k1, k2, t, o, stAV, sameL, AV.same, Er.av_pu, Er.av_share, Er.av_share1, Er.av_leaf, Er.av_tup, post_n, post_e, post_r, post_seq, post_block, post_cond, post_skip, post_exit, post_ret, post_ops, inBlk_e, inBlk_r, done, doneQ_r, doneP, donePQ_r, xcons, xnil, step, stepGo, rds, rd, updO, upd, init, semH, sem, semT, sMv, sPick, sNil, sAgg, sLit, sBin, neg, sBeq, sEqs, sNilI, sNilP, sNilF, sNot, sNeg, sXor, sConv, sConvS, sB2s, sMkI, sMkF, sRep, sSlS, sSlL, sFa, sFld, sIxA, sIxS, sIxG, sAsrt, sExt, sLdI, sLenS, sLenL, sMx, sMn, sApp, sAppS, sBox, sFrs, sIni, sLit0, sIxP, sS2b, sCallV, hLd, hSt, hBox, hNew, hMk, hCallV, bin, binI, binS, bnd, shiftI, takeC, foldO, mx2, mn2, isTupL, setsA, fillA, List.getElem?_cons_zero, List.getElem?_cons_succ, List.getElem?_nil, List.length_cons, List.length_nil, shareL, share1L, cellsL, leafL, puLL, puLN, List.all_cons, List.all_nil, Bool.and_true, Bool.true_and, Bool.and_false, Bool.false_and, Bool.or_true, Bool.true_or, Bool.or_false, Bool.false_or, Bool.and_self, Bool.not_true, Bool.not_false, if_true, if_false, List.map_cons, List.map_nil, List.cons_append, List.nil_append, List.append_nil, leave, resOf, res1, resL, Hp.cut_self, ite_self, reduceIte, reduceCtorEq, Nat.reduceAdd, Nat.reduceMul, Nat.reduceEqDiff, Nat.reduceLT, Nat.reduceLeDiff, Nat.reduceSub, List.drop_zero, List.drop_succ_cons, List.take_zero, List.take_succ_cons, Int.toNat_zero, decide_true, decide_false, decide_eq_true_eq, decide_eq_false_iff_not, Bool.false_eq_true, and_true, true_and, and_self, and_false, false_and, Option.some.injEq, Nat.add_zero, Nat.zero_add, beq_self_eq_true, ne_eq, not_true_eq_false, not_false_eq_true, noOwnL, cellOkL, tgL, Hp.cut_set_self, List.set_cons_zero, List.set_cons_succ, List.length_set]
  have k2 : ¬ ((s.length : Int) < 16) := by omega
  by_cases h3 : s.length > 16
  · have k3 : (s.length : Int) > 16 := by omega
    have t := p_StGet_long s h3
    have o := p_Of (some (.plc 16 (.cls 4)))
    simp only [errAV, ofAV, Er.cl, Er.fs, Er.fp] at o
    simp only [a_law23_StatusGets, p_awake, k1, k2, k3, t, o, stAV, sameL, AV.same, Er.av_pu, Er.av_share, Er.av_share1, Er.av_leaf, Er.av_tup, post_n, post_e, post_r, post_seq, post_block, post_cond, post_skip, post_exit, post_ret, post_ops, inBlk_e, inBlk_r, done, doneQ_r, doneP, donePQ_r, xcons, xnil, step, stepGo, rds, rd, updO, upd, init, semH, sem, semT, sMv, sPick, sNil, sAgg, sLit, sBin, neg, sBeq, sEqs, sNilI, sNilP, sNilF, sNot, sNeg, sXor, sConv, sConvS, sB2s, sMkI, sMkF, sRep, sSlS, sSlL, sFa, sFld, sIxA, sIxS, sIxG, sAsrt, sExt, sLdI, sLenS, sLenL, sMx, sMn, sApp, sAppS, sBox, sFrs, sIni, sLit0, sIxP, sS2b, sCallV, hLd, hSt, hBox, hNew, hMk, hCallV, bin, binI, binS, bnd, shiftI, takeC, foldO, mx2, mn2, isTupL, setsA, fillA, List.getElem?_cons_zero, List.getElem?_cons_succ, List.getElem?_nil, List.length_cons, List.length_nil, shareL, share1L, cellsL, leafL, puLL, puLN, List.all_cons, List.all_nil, Bool.and_true, Bool.true_and, Bool.and_false, Bool.false_and, Bool.or_true, Bool.true_or, Bool.or_false, Bool.false_or, Bool.and_self, Bool.not_true, Bool.not_false, if_true, if_false, List.map_cons, List.map_nil, List.cons_append, List.nil_append, List.append_nil, leave, resOf, res1, resL, Hp.cut_self, ite_self, reduceIte, reduceCtorEq, Nat.reduceAdd, Nat.reduceMul, Nat.reduceEqDiff, Nat.reduceLT, Nat.reduceLeDiff, Nat.reduceSub, List.drop_zero, List.drop_succ_cons, List.take_zero, List.take_succ_cons, Int.toNat_zero, decide_true, decide_false, decide_eq_true_eq, decide_eq_false_iff_not, Bool.false_eq_true, and_true, true_and, and_self, and_false, false_and, Option.some.injEq, Nat.add_zero, Nat.zero_add, beq_self_eq_true, ne_eq, not_true_eq_false, not_false_eq_true, noOwnL, cellOkL, tgL, Hp.cut_set_self, List.set_cons_zero, List.set_cons_succ, List.length_set]
  have k3 : ¬ ((s.length : Int) > 16) := by omega
  have hl : s.length = 16 := by omega
  have t := p_StGet s hl
  have b1 := beNat_lt ((s.drop 0).take 8)
  have b2 := beNat_lt ((s.drop 8).take 4)
  have b3 := beNat_lt ((s.drop 12).take 4)
  have l1 : ((s.drop 0).take 8).length = 8 := by simp; omega
  have l2 : ((s.drop 8).take 4).length = 4 := by simp; omega
  have l3 : ((s.drop 12).take 4).length = 4 := by simp; omega
  rw [l1] at b1
  rw [l2] at b2
  rw [l3] at b3
  have hb := p_Bytes (beNat ((s.drop 0).take 8)) (beNat ((s.drop 8).take 4)) (beNat ((s.drop 12).take 4)) (by omega) (by omega) (by omega)
  have e1 := textL_beNat ((s.drop 0).take 8)
  have e2 := textL_beNat ((s.drop 8).take 4)
  have e3 := textL_beNat ((s.drop 12).take 4)
  rw [l1] at e1
  rw [l2] at e2
  rw [l3] at e3
  have es : (s.drop 0).take 8 ++ (s.drop 8).take 4 ++ (s.drop 12).take 4 = s := by
    have h12 : (s.drop 12).take 4 = s.drop 12 := List.take_of_length_le (by simp; omega)
    have h8 : (s.drop 8).take 4 ++ s.drop 12 = s.drop 8 := by
      have := List.take_append_drop 4 (s.drop 8)
      rwa [List.drop_drop] at this
    rw [h12, List.append_assoc, h8, List.drop_zero, List.take_append_drop]
  rw [e1, e2, e3, es] at hb
  generalize (beNat ((s.drop 0).take 8) : Int) = x1 at *
  generalize (beNat ((s.drop 8).take 4) : Int) = x2 at *
  generalize (beNat ((s.drop 12).take 4) : Int) = x3 at *
  simp only [stAV] at hb
  simp only [a_law23_StatusGets, p_awake, k1, k2, k3, t, hb, stAV, sameL, AV.same, post_n, post_e, post_r, post_seq, post_block, post_cond, post_skip, post_exit, post_ret, post_ops, inBlk_e, inBlk_r, done, doneQ_r, doneP, donePQ_r, xcons, xnil, step, stepGo, rds, rd, updO, upd, init, semH, sem, semT, sMv, sPick, sNil, sAgg, sLit, sBin, neg, sBeq, sEqs, sNilI, sNilP, sNilF, sNot, sNeg, sXor, sConv, sConvS, sB2s, sMkI, sMkF, sRep, sSlS, sSlL, sFa, sFld, sIxA, sIxS, sIxG, sAsrt, sExt, sLdI, sLenS, sLenL, sMx, sMn, sApp, sAppS, sBox, sFrs, sIni, sLit0, sIxP, sS2b, sCallV, hLd, hSt, hBox, hNew, hMk, hCallV, bin, binI, binS, bnd, shiftI, takeC, foldO, mx2, mn2, isTupL, setsA, fillA, List.getElem?_cons_zero, List.getElem?_cons_succ, List.getElem?_nil, List.length_cons, List.length_nil, shareL, share1L, cellsL, leafL, puLL, puLN, List.all_cons, List.all_nil, Bool.and_true, Bool.true_and, Bool.and_false, Bool.false_and, Bool.or_true, Bool.true_or, Bool.or_false, Bool.false_or, Bool.and_self, Bool.not_true, Bool.not_false, if_true, if_false, List.map_cons, List.map_nil, List.cons_append, List.nil_append, List.append_nil, leave, resOf, res1, resL, Hp.cut_self, ite_self, reduceIte, reduceCtorEq, Nat.reduceAdd, Nat.reduceMul, Nat.reduceEqDiff, Nat.reduceLT, Nat.reduceLeDiff, Nat.reduceSub, List.drop_zero, List.drop_succ_cons, List.take_zero, List.take_succ_cons, Int.toNat_zero, decide_true, decide_false, decide_eq_true_eq, decide_eq_false_iff_not, Bool.false_eq_true, and_true, true_and, and_self, and_false, false_and, Option.some.injEq, Nat.add_zero, Nat.zero_add, beq_self_eq_true, ne_eq, not_true_eq_false, not_false_eq_true, noOwnL, cellOkL, tgL, Hp.cut_set_self, List.set_cons_zero, List.set_cons_succ, List.length_set]
theorem law_StatusGets (xs : List AV) (h : TyArgs Go.Proofs.Tryd.prog 6 Go.Proofs.Tryd.f3.params.toList xs) : ∃ h', evT E 3 xs Hp.e = some (.bool true, h') := by
  rw [Go.Proofs.Tryd.params3] at h
  obtain ⟨s, xs', rfl, hs, h⟩ := tyA_string Go.Proofs.Tryd.underlying9 h
  rw [tyA_nil h]
  exact law_of (p_StatusGets s)
end Go.Vm.S
