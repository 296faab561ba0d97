/- Package octet: Fits and Put; conditions: lengths of 1, 2, 4 or 8 bytes, rows that a machine can hold. -/
import Derived.Test.YtonbnopdafgkfaaDoorSOct
import Derived.Test.YtonbnopdafgkfaaDoorVmP
namespace Go.Vm.S
open Go Go.Vm
set_option linter.unusedSimpArgs false
set_option linter.unusedVariables false
/-- A row of bytes. -/
def bAV (l : List UInt8) : List AV := l.map fun c => .int .u8 c.toNat
theorem bAV_length (l : List UInt8) : (bAV l).length = l.length := by simp [bAV]
theorem bAV_append (l m : List UInt8) : bAV (l ++ m) = bAV l ++ bAV m := by simp [bAV]
theorem bAV_pu (o : Bool) (k : Nat) (l : List UInt8) : (AV.sl o k (bAV l)).pu = true := rfl
theorem bytesOf_bAV : ∀ l : List UInt8, bytesOf (bAV l) = some l
  | [] => rfl
  | c :: l => by
    have hc : c.toNat < 256 := c.toNat_lt
    have h1 : AV.byte (.int .u8 c.toNat) = some c := by
      simp only [AV.byte]
      rw [if_pos (by omega)]
      simp
    have h2 := bytesOf_bAV l
    simp only [bAV, List.map_cons, bytesOf] at h2 ⊢
    rw [h1, h2]
theorem bAV_drop (l : List UInt8) (n : Nat) : (bAV l).drop n = bAV (l.drop n) := by simp [bAV]
theorem bAV_take (l : List UInt8) (n : Nat) : (bAV l).take n = bAV (l.take n) := by simp [bAV]
theorem p_CloneB (l : List UInt8) (h : l.length ≤ 1000000000) : (evT E).pure f_slices_Clone___byte_byte_ [.sl false 1 (bAV l)] = some (.sl true 1 (bAV l)) := by
  refine prim_pure tame e_slices_Clone___byte_byte_ rfl ?_ rfl
  simp only [pClone]
  rw [if_pos (by rw [bAV_length]; exact ⟨trivial, by omega, by omega⟩)]
theorem p_Fits {n : Nat} (hn : Sz n) (v : Nat) (hv : v < 18446744073709551616) : (evT E).pure f_octet_Fits [.int .u64 v, .int .i64 n] = some (.bool (decide (v < 256 ^ n))) := by
  refine pure_fn tame e_octet_Fits rfl rfl rfl ?_
  have h1 := p_size hn
  rcases hn with rfl | rfl | rfl | rfl
  · have k : decide (Int.fdiv (v : Int) (2 ^ (min (Int.toNat 8) 64)) = 0) = decide (v < 256 ^ 1) := by
      have : (2 : Int) ^ (min (Int.toNat 8) 64) = 256 := by decide
      rw [this, Int.fdiv_eq_ediv_of_nonneg _ (by decide)]
      simp only [decide_eq_decide]; omega
    have k0 : ¬ ((8 : Int) < 0) := by decide
    have k1 : ¬ ((8 : Int) = 64) := by decide
    simp only [Nat.reduceMul, Int.cast_ofNat_Int] at h1
    simp only [a_octet_Fits, h1, k, k0, k1, Int.cast_ofNat_Int, IntKind.bits, post_n, post_e, post_r, post_seq, post_block, post_cond, post_skip, post_exit, post_ret, post_ops, inBlk_e, inBlk_r, done, doneQ_r, doneP, donePQ_r, xcons, xnil, step, stepGo, rds, rd, updO, upd, init, semH, sem, semT, sMv, sPick, sNil, sAgg, sLit, sBin, neg, sBeq, sEqs, sNilI, sNilP, sNilF, sNot, sNeg, sXor, sConv, sConvS, sB2s, sMkI, sMkF, sRep, sSlS, sSlL, sFa, sFld, sIxA, sIxS, sIxG, sAsrt, sExt, sLdI, sLenS, sLenL, sMx, sMn, sApp, sAppS, sBox, sFrs, sIni, sLit0, sIxP, sS2b, sCallV, hLd, hSt, hBox, hNew, hMk, hCallV, bin, binI, binS, bnd, shiftI, takeC, foldO, mx2, mn2, isTupL, setsA, fillA, List.getElem?_cons_zero, List.getElem?_cons_succ, List.getElem?_nil, List.length_cons, List.length_nil, shareL, share1L, cellsL, leafL, puLL, puLN, List.all_cons, List.all_nil, Bool.and_true, Bool.true_and, Bool.and_false, Bool.false_and, Bool.or_true, Bool.true_or, Bool.or_false, Bool.false_or, Bool.and_self, Bool.not_true, Bool.not_false, if_true, if_false, List.map_cons, List.map_nil, List.cons_append, List.nil_append, List.append_nil, leave, resOf, res1, resL, Hp.cut_self, ite_self, reduceIte, reduceCtorEq, Nat.reduceAdd, Nat.reduceMul, Nat.reduceEqDiff, Nat.reduceLT, Nat.reduceLeDiff, Nat.reduceSub, List.drop_zero, List.drop_succ_cons, List.take_zero, List.take_succ_cons, Int.toNat_zero, decide_true, decide_false, decide_eq_true_eq, decide_eq_false_iff_not, Bool.false_eq_true, and_true, true_and, and_self, and_false, false_and, Option.some.injEq, Nat.add_zero, Nat.zero_add, beq_self_eq_true, ne_eq, not_true_eq_false, not_false_eq_true, noOwnL, cellOkL, tgL, Hp.cut_set_self, List.set_cons_zero, List.set_cons_succ, List.length_set]
  · have k : decide (Int.fdiv (v : Int) (2 ^ (min (Int.toNat 16) 64)) = 0) = decide (v < 256 ^ 2) := by
      have : (2 : Int) ^ (min (Int.toNat 16) 64) = 65536 := by decide
      rw [this, Int.fdiv_eq_ediv_of_nonneg _ (by decide)]
      simp only [decide_eq_decide]; omega
    have k0 : ¬ ((16 : Int) < 0) := by decide
    have k1 : ¬ ((16 : Int) = 64) := by decide
    simp only [Nat.reduceMul, Int.cast_ofNat_Int] at h1
    simp only [a_octet_Fits, h1, k, k0, k1, Int.cast_ofNat_Int, IntKind.bits, post_n, post_e, post_r, post_seq, post_block, post_cond, post_skip, post_exit, post_ret, post_ops, inBlk_e, inBlk_r, done, doneQ_r, doneP, donePQ_r, xcons, xnil, step, stepGo, rds, rd, updO, upd, init, semH, sem, semT, sMv, sPick, sNil, sAgg, sLit, sBin, neg, sBeq, sEqs, sNilI, sNilP, sNilF, sNot, sNeg, sXor, sConv, sConvS, sB2s, sMkI, sMkF, sRep, sSlS, sSlL, sFa, sFld, sIxA, sIxS, sIxG, sAsrt, sExt, sLdI, sLenS, sLenL, sMx, sMn, sApp, sAppS, sBox, sFrs, sIni, sLit0, sIxP, sS2b, sCallV, hLd, hSt, hBox, hNew, hMk, hCallV, bin, binI, binS, bnd, shiftI, takeC, foldO, mx2, mn2, isTupL, setsA, fillA, List.getElem?_cons_zero, List.getElem?_cons_succ, List.getElem?_nil, List.length_cons, List.length_nil, shareL, share1L, cellsL, leafL, puLL, puLN, List.all_cons, List.all_nil, Bool.and_true, Bool.true_and, Bool.and_false, Bool.false_and, Bool.or_true, Bool.true_or, Bool.or_false, Bool.false_or, Bool.and_self, Bool.not_true, Bool.not_false, if_true, if_false, List.map_cons, List.map_nil, List.cons_append, List.nil_append, List.append_nil, leave, resOf, res1, resL, Hp.cut_self, ite_self, reduceIte, reduceCtorEq, Nat.reduceAdd, Nat.reduceMul, Nat.reduceEqDiff, Nat.reduceLT, Nat.reduceLeDiff, Nat.reduceSub, List.drop_zero, List.drop_succ_cons, List.take_zero, List.take_succ_cons, Int.toNat_zero, decide_true, decide_false, decide_eq_true_eq, decide_eq_false_iff_not, Bool.false_eq_true, and_true, true_and, and_self, and_false, false_and, Option.some.injEq, Nat.add_zero, Nat.zero_add, beq_self_eq_true, ne_eq, not_true_eq_false, not_false_eq_true, noOwnL, cellOkL, tgL, Hp.cut_set_self, List.set_cons_zero, List.set_cons_succ, List.length_set]
  · have k : decide (Int.fdiv (v : Int) (2 ^ (min (Int.toNat 32) 64)) = 0) = decide (v < 256 ^ 4) := by
      have : (2 : Int) ^ (min (Int.toNat 32) 64) = 4294967296 := by decide
      rw [this, Int.fdiv_eq_ediv_of_nonneg _ (by decide)]
      simp only [decide_eq_decide]; omega
    have k0 : ¬ ((32 : Int) < 0) := by decide
    have k1 : ¬ ((32 : Int) = 64) := by decide
    simp only [Nat.reduceMul, Int.cast_ofNat_Int] at h1
    simp only [a_octet_Fits, h1, k, k0, k1, Int.cast_ofNat_Int, IntKind.bits, post_n, post_e, post_r, post_seq, post_block, post_cond, post_skip, post_exit, post_ret, post_ops, inBlk_e, inBlk_r, done, doneQ_r, doneP, donePQ_r, xcons, xnil, step, stepGo, rds, rd, updO, upd, init, semH, sem, semT, sMv, sPick, sNil, sAgg, sLit, sBin, neg, sBeq, sEqs, sNilI, sNilP, sNilF, sNot, sNeg, sXor, sConv, sConvS, sB2s, sMkI, sMkF, sRep, sSlS, sSlL, sFa, sFld, sIxA, sIxS, sIxG, sAsrt, sExt, sLdI, sLenS, sLenL, sMx, sMn, sApp, sAppS, sBox, sFrs, sIni, sLit0, sIxP, sS2b, sCallV, hLd, hSt, hBox, hNew, hMk, hCallV, bin, binI, binS, bnd, shiftI, takeC, foldO, mx2, mn2, isTupL, setsA, fillA, List.getElem?_cons_zero, List.getElem?_cons_succ, List.getElem?_nil, List.length_cons, List.length_nil, shareL, share1L, cellsL, leafL, puLL, puLN, List.all_cons, List.all_nil, Bool.and_true, Bool.true_and, Bool.and_false, Bool.false_and, Bool.or_true, Bool.true_or, Bool.or_false, Bool.false_or, Bool.and_self, Bool.not_true, Bool.not_false, if_true, if_false, List.map_cons, List.map_nil, List.cons_append, List.nil_append, List.append_nil, leave, resOf, res1, resL, Hp.cut_self, ite_self, reduceIte, reduceCtorEq, Nat.reduceAdd, Nat.reduceMul, Nat.reduceEqDiff, Nat.reduceLT, Nat.reduceLeDiff, Nat.reduceSub, List.drop_zero, List.drop_succ_cons, List.take_zero, List.take_succ_cons, Int.toNat_zero, decide_true, decide_false, decide_eq_true_eq, decide_eq_false_iff_not, Bool.false_eq_true, and_true, true_and, and_self, and_false, false_and, Option.some.injEq, Nat.add_zero, Nat.zero_add, beq_self_eq_true, ne_eq, not_true_eq_false, not_false_eq_true, noOwnL, cellOkL, tgL, Hp.cut_set_self, List.set_cons_zero, List.set_cons_succ, List.length_set]
  · have k : decide (v < 256 ^ 8) = true := by simp only [decide_eq_true_eq]; omega
    simp only [Nat.reduceMul, Int.cast_ofNat_Int] at h1
    simp only [a_octet_Fits, h1, k, Int.cast_ofNat_Int, post_n, post_e, post_r, post_seq, post_block, post_cond, post_skip, post_exit, post_ret, post_ops, inBlk_e, inBlk_r, done, doneQ_r, doneP, donePQ_r, xcons, xnil, step, stepGo, rds, rd, updO, upd, init, semH, sem, semT, sMv, sPick, sNil, sAgg, sLit, sBin, neg, sBeq, sEqs, sNilI, sNilP, sNilF, sNot, sNeg, sXor, sConv, sConvS, sB2s, sMkI, sMkF, sRep, sSlS, sSlL, sFa, sFld, sIxA, sIxS, sIxG, sAsrt, sExt, sLdI, sLenS, sLenL, sMx, sMn, sApp, sAppS, sBox, sFrs, sIni, sLit0, sIxP, sS2b, sCallV, hLd, hSt, hBox, hNew, hMk, hCallV, bin, binI, binS, bnd, shiftI, takeC, foldO, mx2, mn2, isTupL, setsA, fillA, List.getElem?_cons_zero, List.getElem?_cons_succ, List.getElem?_nil, List.length_cons, List.length_nil, shareL, share1L, cellsL, leafL, puLL, puLN, List.all_cons, List.all_nil, Bool.and_true, Bool.true_and, Bool.and_false, Bool.false_and, Bool.or_true, Bool.true_or, Bool.or_false, Bool.false_or, Bool.and_self, Bool.not_true, Bool.not_false, if_true, if_false, List.map_cons, List.map_nil, List.cons_append, List.nil_append, List.append_nil, leave, resOf, res1, resL, Hp.cut_self, ite_self, reduceIte, reduceCtorEq, Nat.reduceAdd, Nat.reduceMul, Nat.reduceEqDiff, Nat.reduceLT, Nat.reduceLeDiff, Nat.reduceSub, List.drop_zero, List.drop_succ_cons, List.take_zero, List.take_succ_cons, Int.toNat_zero, decide_true, decide_false, decide_eq_true_eq, decide_eq_false_iff_not, Bool.false_eq_true, and_true, true_and, and_self, and_false, false_and, Option.some.injEq, Nat.add_zero, Nat.zero_add, beq_self_eq_true, ne_eq, not_true_eq_false, not_false_eq_true, noOwnL, cellOkL, tgL, Hp.cut_set_self, List.set_cons_zero, List.set_cons_succ, List.length_set]
theorem p_Put_no (b : List UInt8) (hb : b.length ≤ 1000000) {n : Nat} (hn : Sz n) (v : Nat) (hv : v < 18446744073709551616) (hf : ¬ v < 256 ^ n) :
    (evT E).pure f_octet_Put [.sl false 1 (bAV b), .int .u64 v, .int .i64 n] = some (.tup [.sl true 1 (bAV b), .bool false]) := by
  refine pure_fn tame e_octet_Put rfl rfl rfl ?_
  have h1 := p_Fits hn v hv
  have h2 := p_CloneB b (by omega)
  have h3 : decide (v < 256 ^ n) = false := by simp only [decide_eq_false_iff_not]; exact hf
  rw [h3] at h1
  simp only [a_octet_Put, h1, h2, post_n, post_e, post_r, post_seq, post_block, post_cond, post_skip, post_exit, post_ret, post_ops, inBlk_e, inBlk_r, done, doneQ_r, doneP, donePQ_r, xcons, xnil, step, stepGo, rds, rd, updO, upd, init, semH, sem, semT, sMv, sPick, sNil, sAgg, sLit, sBin, neg, sBeq, sEqs, sNilI, sNilP, sNilF, sNot, sNeg, sXor, sConv, sConvS, sB2s, sMkI, sMkF, sRep, sSlS, sSlL, sFa, sFld, sIxA, sIxS, sIxG, sAsrt, sExt, sLdI, sLenS, sLenL, sMx, sMn, sApp, sAppS, sBox, sFrs, sIni, sLit0, sIxP, sS2b, sCallV, hLd, hSt, hBox, hNew, hMk, hCallV, bin, binI, binS, bnd, shiftI, takeC, foldO, mx2, mn2, isTupL, setsA, fillA, List.getElem?_cons_zero, List.getElem?_cons_succ, List.getElem?_nil, List.length_cons, List.length_nil, shareL, share1L, cellsL, leafL, puLL, puLN, List.all_cons, List.all_nil, Bool.and_true, Bool.true_and, Bool.and_false, Bool.false_and, Bool.or_true, Bool.true_or, Bool.or_false, Bool.false_or, Bool.and_self, Bool.not_true, Bool.not_false, if_true, if_false, List.map_cons, List.map_nil, List.cons_append, List.nil_append, List.append_nil, leave, resOf, res1, resL, Hp.cut_self, ite_self, reduceIte, reduceCtorEq, Nat.reduceAdd, Nat.reduceMul, Nat.reduceEqDiff, Nat.reduceLT, Nat.reduceLeDiff, Nat.reduceSub, List.drop_zero, List.drop_succ_cons, List.take_zero, List.take_succ_cons, Int.toNat_zero, decide_true, decide_false, decide_eq_true_eq, decide_eq_false_iff_not, Bool.false_eq_true, and_true, true_and, and_self, and_false, false_and, Option.some.injEq, Nat.add_zero, Nat.zero_add, beq_self_eq_true, ne_eq, not_true_eq_false, not_false_eq_true, noOwnL, cellOkL, tgL, Hp.cut_set_self, List.set_cons_zero, List.set_cons_succ, List.length_set]
theorem p_Put (b : List UInt8) (hb : b.length ≤ 1000000) {n : Nat} (hn : Sz n) (v : Nat) (hv : v < 18446744073709551616) (hf : v < 256 ^ n) :
    (evT E).pure f_octet_Put [.sl false 1 (bAV b), .int .u64 v, .int .i64 n] = some (.tup [.sl true 1 (bAV (b ++ textL v n)), .bool true]) := by
  refine pure_fn tame e_octet_Put rfl rfl rfl ?_
  have h1 := p_Fits hn v hv
  have h2 := p_CloneB b (by omega)
  have h3 : decide (v < 256 ^ n) = true := by simp only [decide_eq_true_eq]; exact hf
  rw [h3] at h1
  have hle := hn.le
  have h4 : IntKind.i64.wrap ((n : Int) - 1) = (n : Int) - 1 := wI64 (by omega) (by omega)
  simp only [a_octet_Put, h1, h2, h4, post_n, post_e, post_r, post_seq, post_block, post_cond, post_skip, post_exit, post_ret, post_ops, inBlk_e, inBlk_r, done, doneQ_r, doneP, donePQ_r, xcons, xnil, step, stepGo, rds, rd, updO, upd, init, semH, sem, semT, sMv, sPick, sNil, sAgg, sLit, sBin, neg, sBeq, sEqs, sNilI, sNilP, sNilF, sNot, sNeg, sXor, sConv, sConvS, sB2s, sMkI, sMkF, sRep, sSlS, sSlL, sFa, sFld, sIxA, sIxS, sIxG, sAsrt, sExt, sLdI, sLenS, sLenL, sMx, sMn, sApp, sAppS, sBox, sFrs, sIni, sLit0, sIxP, sS2b, sCallV, hLd, hSt, hBox, hNew, hMk, hCallV, bin, binI, binS, bnd, shiftI, takeC, foldO, mx2, mn2, isTupL, setsA, fillA, List.getElem?_cons_zero, List.getElem?_cons_succ, List.getElem?_nil, List.length_cons, List.length_nil, shareL, share1L, cellsL, leafL, puLL, puLN, List.all_cons, List.all_nil, Bool.and_true, Bool.true_and, Bool.and_false, Bool.false_and, Bool.or_true, Bool.true_or, Bool.or_false, Bool.false_or, Bool.and_self, Bool.not_true, Bool.not_false, if_true, if_false, List.map_cons, List.map_nil, List.cons_append, List.nil_append, List.append_nil, leave, resOf, res1, resL, Hp.cut_self, ite_self, reduceIte, reduceCtorEq, Nat.reduceAdd, Nat.reduceMul, Nat.reduceEqDiff, Nat.reduceLT, Nat.reduceLeDiff, Nat.reduceSub, List.drop_zero, List.drop_succ_cons, List.take_zero, List.take_succ_cons, Int.toNat_zero, decide_true, decide_false, decide_eq_true_eq, decide_eq_false_iff_not, Bool.false_eq_true, and_true, true_and, and_self, and_false, false_and, Option.some.injEq, Nat.add_zero, Nat.zero_add, beq_self_eq_true, ne_eq, not_true_eq_false, not_false_eq_true, noOwnL, cellOkL, tgL, Hp.cut_set_self, List.set_cons_zero, List.set_cons_succ, List.length_set]
  refine post_meas (fun m e => m ≤ n ∧ ∃ pre : List UInt8, pre ++ textL v m = textL v n ∧ e.1 1 = .int .u64 v ∧ e.1 9 = .int .i64 ((m : Int) - 1) ∧ e.1 8 = .sl true 1 (bAV (b ++ pre))) n ?_ ?_
  · exact ⟨Nat.le_refl _, [], rfl, rfl, rfl, by simp [upd]⟩
  · rintro m ⟨e, hh⟩ ⟨hm, pre, hpre, g1, g2, g3⟩
    simp only at g1 g2 g3
    cases m with
    | zero =>
      have k1 : ¬ (((0 : Nat) : Int) - 1 ≥ 0) := by omega
      have hp : pre = textL v n := by simpa [textL] using hpre
      subst hp
      simp only [b0_octet_Put, g1, g2, g3, k1, post_n, post_e, post_r, post_seq, post_block, post_cond, post_skip, post_exit, post_ret, post_ops, inBlk_e, inBlk_r, done, doneQ_r, doneP, donePQ_r, xcons, xnil, step, stepGo, rds, rd, updO, upd, init, semH, sem, semT, sMv, sPick, sNil, sAgg, sLit, sBin, neg, sBeq, sEqs, sNilI, sNilP, sNilF, sNot, sNeg, sXor, sConv, sConvS, sB2s, sMkI, sMkF, sRep, sSlS, sSlL, sFa, sFld, sIxA, sIxS, sIxG, sAsrt, sExt, sLdI, sLenS, sLenL, sMx, sMn, sApp, sAppS, sBox, sFrs, sIni, sLit0, sIxP, sS2b, sCallV, hLd, hSt, hBox, hNew, hMk, hCallV, bin, binI, binS, bnd, shiftI, takeC, foldO, mx2, mn2, isTupL, setsA, fillA, List.getElem?_cons_zero, List.getElem?_cons_succ, List.getElem?_nil, List.length_cons, List.length_nil, shareL, share1L, cellsL, leafL, puLL, puLN, List.all_cons, List.all_nil, Bool.and_true, Bool.true_and, Bool.and_false, Bool.false_and, Bool.or_true, Bool.true_or, Bool.or_false, Bool.false_or, Bool.and_self, Bool.not_true, Bool.not_false, if_true, if_false, List.map_cons, List.map_nil, List.cons_append, List.nil_append, List.append_nil, leave, resOf, res1, resL, Hp.cut_self, ite_self, reduceIte, reduceCtorEq, Nat.reduceAdd, Nat.reduceMul, Nat.reduceEqDiff, Nat.reduceLT, Nat.reduceLeDiff, Nat.reduceSub, List.drop_zero, List.drop_succ_cons, List.take_zero, List.take_succ_cons, Int.toNat_zero, decide_true, decide_false, decide_eq_true_eq, decide_eq_false_iff_not, Bool.false_eq_true, and_true, true_and, and_self, and_false, false_and, Option.some.injEq, Nat.add_zero, Nat.zero_add, beq_self_eq_true, ne_eq, not_true_eq_false, not_false_eq_true, noOwnL, cellOkL, tgL, Hp.cut_set_self, List.set_cons_zero, List.set_cons_succ, List.length_set]
    | succ m =>
      have k1 : ((m + 1 : Nat) : Int) - 1 ≥ 0 := by omega
      have k2 : IntKind.i64.wrap (((m + 1 : Nat) : Int) - 1 - 1) = (m : Int) - 1 := by rw [wI64 (by omega) (by omega)]; omega
      have k3 : IntKind.i64.wrap (8 * (((m + 1 : Nat) : Int) - 1)) = ((8 * m : Nat) : Int) := by rw [wI64 (by omega) (by omega)]; omega
      have k4 : ¬ (((8 * m : Nat) : Int) < 0) := by omega
      have k5 : IntKind.u8.wrap (Int.fdiv (v : Int) (2 ^ (min (8 * m) 64))) = ((v / 256 ^ m % 256 : Nat) : Int) := by
        have e1 : min (8 * m) 64 = 8 * m := by omega
        have e2 : (2 : Int) ^ (8 * m) = ((256 ^ m : Nat) : Int) := by rw [Int.pow_mul]; simp
        rw [e1, e2, Int.fdiv_eq_ediv_of_nonneg _ (Int.natCast_nonneg _), wU8]
        simp
      have hl : (b ++ pre).length ≤ 1000100 := by
        have := congrArg List.length hpre
        simp [textL_length] at this ⊢
        omega
      have k6 : (((bAV (b ++ pre)).length + 1) * 1 ≤ 140737488355328) ∧ ((bAV (b ++ pre)).length + 1 ≤ 4611686018427387904) := by rw [bAV_length]; omega
      have k7 : (bAV (b ++ pre)) ++ [AV.int .u8 ((v / 256 ^ m % 256 : Nat) : Int)] = bAV (b ++ (pre ++ [UInt8.ofNat (v / 256 ^ m % 256)])) := by
        rw [← List.append_assoc, bAV_append (b ++ pre)]
        have : (UInt8.ofNat (v / 256 ^ m % 256)).toNat = v / 256 ^ m % 256 := by rw [UInt8.toNat_ofNat']; exact Nat.mod_eq_of_lt (by omega)
        simp [bAV, this]
      simp only [b0_octet_Put, g1, g2, g3, k1, k2, k3, k4, k5, k6.1, k6.2, k7, Int.toNat_natCast, IntKind.bits, post_n, post_e, post_r, post_seq, post_block, post_cond, post_skip, post_exit, post_ret, post_ops, inBlk_e, inBlk_r, done, doneQ_r, doneP, donePQ_r, xcons, xnil, step, stepGo, rds, rd, updO, upd, init, semH, sem, semT, sMv, sPick, sNil, sAgg, sLit, sBin, neg, sBeq, sEqs, sNilI, sNilP, sNilF, sNot, sNeg, sXor, sConv, sConvS, sB2s, sMkI, sMkF, sRep, sSlS, sSlL, sFa, sFld, sIxA, sIxS, sIxG, sAsrt, sExt, sLdI, sLenS, sLenL, sMx, sMn, sApp, sAppS, sBox, sFrs, sIni, sLit0, sIxP, sS2b, sCallV, hLd, hSt, hBox, hNew, hMk, hCallV, bin, binI, binS, bnd, shiftI, takeC, foldO, mx2, mn2, isTupL, setsA, fillA, List.getElem?_cons_zero, List.getElem?_cons_succ, List.getElem?_nil, List.length_cons, List.length_nil, shareL, share1L, cellsL, leafL, puLL, puLN, List.all_cons, List.all_nil, Bool.and_true, Bool.true_and, Bool.and_false, Bool.false_and, Bool.or_true, Bool.true_or, Bool.or_false, Bool.false_or, Bool.and_self, Bool.not_true, Bool.not_false, if_true, if_false, List.map_cons, List.map_nil, List.cons_append, List.nil_append, List.append_nil, leave, resOf, res1, resL, Hp.cut_self, ite_self, reduceIte, reduceCtorEq, Nat.reduceAdd, Nat.reduceMul, Nat.reduceEqDiff, Nat.reduceLT, Nat.reduceLeDiff, Nat.reduceSub, List.drop_zero, List.drop_succ_cons, List.take_zero, List.take_succ_cons, Int.toNat_zero, decide_true, decide_false, decide_eq_true_eq, decide_eq_false_iff_not, Bool.false_eq_true, and_true, true_and, and_self, and_false, false_and, Option.some.injEq, Nat.add_zero, Nat.zero_add, beq_self_eq_true, ne_eq, not_true_eq_false, not_false_eq_true, noOwnL, cellOkL, tgL, Hp.cut_set_self, List.set_cons_zero, List.set_cons_succ, List.length_set]
      exact ⟨m, by omega, by omega, pre ++ [UInt8.ofNat (v / 256 ^ m % 256)], by rw [List.append_assoc]; exact hpre, rfl, rfl⟩
end Go.Vm.S
