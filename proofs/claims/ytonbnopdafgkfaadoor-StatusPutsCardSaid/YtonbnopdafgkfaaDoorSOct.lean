/- Package octet and its reference: numbers as bytes; conditions: lengths of 1, 2, 4 or 8 bytes within the text. -/
import Derived.Test.YtonbnopdafgkfaaDoorSFault
import Derived.Test.YtonbnopdafgkfaaDoorVmN
namespace Go.Vm.S
open Go Go.Vm
set_option linter.unusedSimpArgs false
set_option linter.unusedVariables false
theorem p_size1 : (evT E).pure f_octet_size [.int .i64 1] = some (.tup [.int .u64 8, .bool true]) := pure_run tame 3 (by kernel_rfl) rfl rfl
theorem p_size2 : (evT E).pure f_octet_size [.int .i64 2] = some (.tup [.int .u64 16, .bool true]) := pure_run tame 3 (by kernel_rfl) rfl rfl
theorem p_size4 : (evT E).pure f_octet_size [.int .i64 4] = some (.tup [.int .u64 32, .bool true]) := pure_run tame 3 (by kernel_rfl) rfl rfl
theorem p_size8 : (evT E).pure f_octet_size [.int .i64 8] = some (.tup [.int .u64 64, .bool true]) := pure_run tame 3 (by kernel_rfl) rfl rfl
/-- Lengths of numbers. -/
def Sz (n : Nat) : Prop := n = 1 ∨ n = 2 ∨ n = 4 ∨ n = 8
theorem p_size {n : Nat} (h : Sz n) : (evT E).pure f_octet_size [.int .i64 n] = some (.tup [.int .u64 ((8 * n : Nat) : Int), .bool true]) := by
  rcases h with rfl | rfl | rfl | rfl
  · exact p_size1
  · exact p_size2
  · exact p_size4
  · exact p_size8
theorem Sz.le {n : Nat} (h : Sz n) : 1 ≤ n ∧ n ≤ 8 := by rcases h with rfl | rfl | rfl | rfl <;> omega
theorem p_Get (s : List UInt8) (at' n : Nat) (hn : Sz n) (hb : at' + n ≤ s.length) (hs : s.length < 4611686018427387904) :
    (evT E).pure f_octet_Get [.str s, .int .i64 at', .int .i64 n] = some (.tup [.int .u64 (beNat ((s.drop at').take n)), .bool true]) := by
  refine pure_fn tame e_octet_Get rfl rfl rfl ?_
  have h1 := p_size hn
  have hle := hn.le
  have h2 : ¬ ((at' : Int) < 0) := by omega
  have h3 : ¬ ((at' : Int) > (s.length : Int)) := by omega
  have h4 : IntKind.i64.wrap ((s.length : Int) - at') = ((s.length - at' : Nat) : Int) := by rw [wI64 (by omega) (by omega)]; omega
  have h5 : ¬ ((n : Int) > ((s.length - at' : Nat) : Int)) := by omega
  simp only [a_octet_Get, h1, h2, h3, h4, h5, post_n, post_e, post_r, post_seq, post_block, post_cond, post_skip, post_exit, post_ret, post_ops, inBlk_e, inBlk_r, done, doneQ_r, doneP, donePQ_r, xcons, xnil, step, stepGo, rds, rd, updO, upd, init, semH, sem, semT, sMv, sPick, sNil, sAgg, sLit, sBin, neg, sBeq, sEqs, sNilI, sNilP, sNilF, sNot, sNeg, sXor, sConv, sConvS, sB2s, sMkI, sMkF, sRep, sSlS, sSlL, sFa, sFld, sIxA, sIxS, sIxG, sAsrt, sExt, sLdI, sLenS, sLenL, sMx, sMn, sApp, sAppS, sBox, sFrs, sIni, sLit0, sIxP, sS2b, sCallV, hLd, hSt, hBox, hNew, hMk, hCallV, bin, binI, binS, bnd, shiftI, takeC, foldO, mx2, mn2, isTupL, setsA, fillA, List.getElem?_cons_zero, List.getElem?_cons_succ, List.getElem?_nil, List.length_cons, List.length_nil, shareL, share1L, cellsL, leafL, puLL, puLN, List.all_cons, List.all_nil, Bool.and_true, Bool.true_and, Bool.and_false, Bool.false_and, Bool.or_true, Bool.true_or, Bool.or_false, Bool.false_or, Bool.and_self, Bool.not_true, Bool.not_false, if_true, if_false, List.map_cons, List.map_nil, List.cons_append, List.nil_append, List.append_nil, leave, resOf, res1, resL, Hp.cut_self, ite_self, reduceIte, reduceCtorEq, Nat.reduceAdd, Nat.reduceMul, Nat.reduceEqDiff, Nat.reduceLT, Nat.reduceLeDiff, Nat.reduceSub, List.drop_zero, List.drop_succ_cons, List.take_zero, List.take_succ_cons, Int.toNat_zero, decide_true, decide_false, decide_eq_true_eq, decide_eq_false_iff_not, Bool.false_eq_true, and_true, true_and, and_self, and_false, false_and, Option.some.injEq, Nat.add_zero, Nat.zero_add, beq_self_eq_true, ne_eq, not_true_eq_false, not_false_eq_true, noOwnL, cellOkL, tgL, Hp.cut_set_self, List.set_cons_zero, List.set_cons_succ, List.length_set]
  refine post_count (fun i e => e.1 0 = .str s ∧ e.1 1 = .int .i64 at' ∧ e.1 37 = .int .i64 n ∧ e.1 38 = .int .i64 i ∧ e.1 10 = .int .u64 (beNat ((s.drop at').take i))) n 0 (Nat.zero_le _) ?_ ?_ ?_
  · exact ⟨rfl, rfl, rfl, rfl, rfl⟩
  · rintro i ⟨e, hh⟩ hi ⟨g0, g1, g2, g3, g4⟩
    simp only at g0 g1 g2 g3 g4
    have k1 : (i : Int) < n := by omega
    have k2 : IntKind.i64.wrap ((at' : Int) + i) = ((at' + i : Nat) : Int) := by rw [wI64 (by omega) (by omega)]; omega
    have k3 : IntKind.i64.wrap ((i : Int) + 1) = ((i + 1 : Nat) : Int) := by rw [wI64 (by omega) (by omega)]; omega
    have hlt : at' + i < s.length := by omega
    have k4 : s[at' + i]? = some s[at' + i] := by simp [hlt]
    have k5 : (0 : Int) ≤ ((at' + i : Nat) : Int) := by omega
    have hc : s[at' + i].toNat < 256 := s[at' + i].toNat_lt
    have k6 : IntKind.u64.wrap ((s[at' + i].toNat : Nat) : Int) = (s[at' + i].toNat : Int) := wU64 (by omega) (by omega)
    have htk : (s.drop at').take (i + 1) = (s.drop at').take i ++ [s[at' + i]] := by
      rw [List.take_add_one, List.getElem?_drop, k4]; rfl
    have hv := beNat_lt ((s.drop at').take i)
    have hvl : ((s.drop at').take i).length = i := by simp; omega
    rw [hvl] at hv
    have hp : 256 ^ i ≤ 256 ^ 7 := Nat.pow_le_pow_right (by decide) (by omega)
    have k7 : IntKind.u64.wrap ((beNat ((s.drop at').take i) : Int) * 2 ^ (min (Int.toNat 8) 64)) = ((beNat ((s.drop at').take i) * 2 ^ 8 : Nat) : Int) := by
      have : (2 : Int) ^ (min (Int.toNat 8) 64) = 256 := by decide
      rw [this, wU64 (by omega) (by omega)]; omega
    have k8 := or_apart (beNat ((s.drop at').take i)) s[at' + i].toNat 8 (by omega) (by omega)
    have k9 : beNat ((s.drop at').take i) * 2 ^ 8 + s[at' + i].toNat = beNat ((s.drop at').take (i + 1)) := by rw [htk, beNat_snoc]
    rw [k9] at k8
    have k10 : ¬ ((8 : Int) < 0) := by decide
    simp only [b0_octet_Get, g0, g1, g2, g3, g4, k1, k2, k3, k4, k5, k6, k7, k8, k10, Int.toNat_natCast, IntKind.bits, post_n, post_e, post_r, post_seq, post_block, post_cond, post_skip, post_exit, post_ret, post_ops, inBlk_e, inBlk_r, done, doneQ_r, doneP, donePQ_r, xcons, xnil, step, stepGo, rds, rd, updO, upd, init, semH, sem, semT, sMv, sPick, sNil, sAgg, sLit, sBin, neg, sBeq, sEqs, sNilI, sNilP, sNilF, sNot, sNeg, sXor, sConv, sConvS, sB2s, sMkI, sMkF, sRep, sSlS, sSlL, sFa, sFld, sIxA, sIxS, sIxG, sAsrt, sExt, sLdI, sLenS, sLenL, sMx, sMn, sApp, sAppS, sBox, sFrs, sIni, sLit0, sIxP, sS2b, sCallV, hLd, hSt, hBox, hNew, hMk, hCallV, bin, binI, binS, bnd, shiftI, takeC, foldO, mx2, mn2, isTupL, setsA, fillA, List.getElem?_cons_zero, List.getElem?_cons_succ, List.getElem?_nil, List.length_cons, List.length_nil, shareL, share1L, cellsL, leafL, puLL, puLN, List.all_cons, List.all_nil, Bool.and_true, Bool.true_and, Bool.and_false, Bool.false_and, Bool.or_true, Bool.true_or, Bool.or_false, Bool.false_or, Bool.and_self, Bool.not_true, Bool.not_false, if_true, if_false, List.map_cons, List.map_nil, List.cons_append, List.nil_append, List.append_nil, leave, resOf, res1, resL, Hp.cut_self, ite_self, reduceIte, reduceCtorEq, Nat.reduceAdd, Nat.reduceMul, Nat.reduceEqDiff, Nat.reduceLT, Nat.reduceLeDiff, Nat.reduceSub, List.drop_zero, List.drop_succ_cons, List.take_zero, List.take_succ_cons, Int.toNat_zero, decide_true, decide_false, decide_eq_true_eq, decide_eq_false_iff_not, Bool.false_eq_true, and_true, true_and, and_self, and_false, false_and, Option.some.injEq, Nat.add_zero, Nat.zero_add, beq_self_eq_true, ne_eq, not_true_eq_false, not_false_eq_true, noOwnL, cellOkL, tgL, Hp.cut_set_self, List.set_cons_zero, List.set_cons_succ, List.length_set]
  · rintro ⟨e, hh⟩ ⟨g0, g1, g2, g3, g4⟩
    simp only at g0 g1 g2 g3 g4
    have k1 : ¬ ((n : Int) < n) := by omega
    simp only [b0_octet_Get, g0, g1, g2, g3, g4, k1, post_n, post_e, post_r, post_seq, post_block, post_cond, post_skip, post_exit, post_ret, post_ops, inBlk_e, inBlk_r, done, doneQ_r, doneP, donePQ_r, xcons, xnil, step, stepGo, rds, rd, updO, upd, init, semH, sem, semT, sMv, sPick, sNil, sAgg, sLit, sBin, neg, sBeq, sEqs, sNilI, sNilP, sNilF, sNot, sNeg, sXor, sConv, sConvS, sB2s, sMkI, sMkF, sRep, sSlS, sSlL, sFa, sFld, sIxA, sIxS, sIxG, sAsrt, sExt, sLdI, sLenS, sLenL, sMx, sMn, sApp, sAppS, sBox, sFrs, sIni, sLit0, sIxP, sS2b, sCallV, hLd, hSt, hBox, hNew, hMk, hCallV, bin, binI, binS, bnd, shiftI, takeC, foldO, mx2, mn2, isTupL, setsA, fillA, List.getElem?_cons_zero, List.getElem?_cons_succ, List.getElem?_nil, List.length_cons, List.length_nil, shareL, share1L, cellsL, leafL, puLL, puLN, List.all_cons, List.all_nil, Bool.and_true, Bool.true_and, Bool.and_false, Bool.false_and, Bool.or_true, Bool.true_or, Bool.or_false, Bool.false_or, Bool.and_self, Bool.not_true, Bool.not_false, if_true, if_false, List.map_cons, List.map_nil, List.cons_append, List.nil_append, List.append_nil, leave, resOf, res1, resL, Hp.cut_self, ite_self, reduceIte, reduceCtorEq, Nat.reduceAdd, Nat.reduceMul, Nat.reduceEqDiff, Nat.reduceLT, Nat.reduceLeDiff, Nat.reduceSub, List.drop_zero, List.drop_succ_cons, List.take_zero, List.take_succ_cons, Int.toNat_zero, decide_true, decide_false, decide_eq_true_eq, decide_eq_false_iff_not, Bool.false_eq_true, and_true, true_and, and_self, and_false, false_and, Option.some.injEq, Nat.add_zero, Nat.zero_add, beq_self_eq_true, ne_eq, not_true_eq_false, not_false_eq_true, noOwnL, cellOkL, tgL, Hp.cut_set_self, List.set_cons_zero, List.set_cons_succ, List.length_set]
theorem p_Text (v n : Nat) (hv : v < 18446744073709551616) (hn : n < 1000) : (evT E).pure f_ref01_Text [.int .u64 v, .int .i64 n] = some (.str (textL v n)) := by
  refine pure_fn tame e_ref01_Text rfl rfl rfl ?_
  simp only [a_ref01_Text, post_n, post_e, post_r, post_seq, post_block, post_cond, post_skip, post_exit, post_ret, post_ops, inBlk_e, inBlk_r, done, doneQ_r, doneP, donePQ_r, xcons, xnil, step, stepGo, rds, rd, updO, upd, init, semH, sem, semT, sMv, sPick, sNil, sAgg, sLit, sBin, neg, sBeq, sEqs, sNilI, sNilP, sNilF, sNot, sNeg, sXor, sConv, sConvS, sB2s, sMkI, sMkF, sRep, sSlS, sSlL, sFa, sFld, sIxA, sIxS, sIxG, sAsrt, sExt, sLdI, sLenS, sLenL, sMx, sMn, sApp, sAppS, sBox, sFrs, sIni, sLit0, sIxP, sS2b, sCallV, hLd, hSt, hBox, hNew, hMk, hCallV, bin, binI, binS, bnd, shiftI, takeC, foldO, mx2, mn2, isTupL, setsA, fillA, List.getElem?_cons_zero, List.getElem?_cons_succ, List.getElem?_nil, List.length_cons, List.length_nil, shareL, share1L, cellsL, leafL, puLL, puLN, List.all_cons, List.all_nil, Bool.and_true, Bool.true_and, Bool.and_false, Bool.false_and, Bool.or_true, Bool.true_or, Bool.or_false, Bool.false_or, Bool.and_self, Bool.not_true, Bool.not_false, if_true, if_false, List.map_cons, List.map_nil, List.cons_append, List.nil_append, List.append_nil, leave, resOf, res1, resL, Hp.cut_self, ite_self, reduceIte, reduceCtorEq, Nat.reduceAdd, Nat.reduceMul, Nat.reduceEqDiff, Nat.reduceLT, Nat.reduceLeDiff, Nat.reduceSub, List.drop_zero, List.drop_succ_cons, List.take_zero, List.take_succ_cons, Int.toNat_zero, decide_true, decide_false, decide_eq_true_eq, decide_eq_false_iff_not, Bool.false_eq_true, and_true, true_and, and_self, and_false, false_and, Option.some.injEq, Nat.add_zero, Nat.zero_add, beq_self_eq_true, ne_eq, not_true_eq_false, not_false_eq_true, noOwnL, cellOkL, tgL, Hp.cut_set_self, List.set_cons_zero, List.set_cons_succ, List.length_set]
  refine post_count (fun i e => e.1 0 = .int .u64 ((v / 256 ^ i : Nat) : Int) ∧ e.1 1 = .int .i64 n ∧ e.1 6 = .int .i64 i ∧ e.1 5 = .str (textL v i)) n 0 (Nat.zero_le _) ?_ ?_ ?_
  · exact ⟨by simp [init, upd], rfl, rfl, rfl⟩
  · rintro i ⟨e, hh⟩ hi ⟨g0, g1, g2, g3⟩
    simp only at g0 g1 g2 g3
    have k1 : (i : Int) < n := by omega
    have k3 : IntKind.i64.wrap ((i : Int) + 1) = ((i + 1 : Nat) : Int) := by rw [wI64 (by omega) (by omega)]; omega
    have hq : v / 256 ^ i ≤ v := Nat.div_le_self _ _
    have hd : v / 256 ^ (i + 1) = v / 256 ^ i / 256 := by rw [Nat.pow_succ, ← Nat.div_div_eq_div_mul]
    have ht : textL v (i + 1) = UInt8.ofNat (v / 256 ^ i % 256) :: textL v i := rfl
    rw [hd, ht]
    generalize v / 256 ^ i = q at g0 hq ⊢
    have k4 : IntKind.u8.wrap ((q : Int).tmod 256) = ((q % 256 : Nat) : Int) := by
      rw [Int.tmod_eq_emod_of_nonneg (by omega), wU8]; omega
    have k5 : IntKind.u64.wrap ((q : Int).tdiv 256) = ((q / 256 : Nat) : Int) := by
      rw [Int.tdiv_eq_ediv_of_nonneg (by omega), wU64 (by omega) (by omega)]; omega
    have k6 : ¬ ((256 : Int) = 0) := by decide
    have k7 : (0 : Int) ≤ ((q % 256 : Nat) : Int) ∧ ((q % 256 : Nat) : Int) < 256 := by omega
    have k8 : 1 + (textL v i).length ≤ 9223372036854775807 := by rw [textL_length]; omega
    simp only [b0_ref01_Text, g0, g1, g2, g3, k1, k3, k4, k5, k6, k7, k8, bytesOf, AV.byte, Int.toNat_natCast, List.singleton_append, post_n, post_e, post_r, post_seq, post_block, post_cond, post_skip, post_exit, post_ret, post_ops, inBlk_e, inBlk_r, done, doneQ_r, doneP, donePQ_r, xcons, xnil, step, stepGo, rds, rd, updO, upd, init, semH, sem, semT, sMv, sPick, sNil, sAgg, sLit, sBin, neg, sBeq, sEqs, sNilI, sNilP, sNilF, sNot, sNeg, sXor, sConv, sConvS, sB2s, sMkI, sMkF, sRep, sSlS, sSlL, sFa, sFld, sIxA, sIxS, sIxG, sAsrt, sExt, sLdI, sLenS, sLenL, sMx, sMn, sApp, sAppS, sBox, sFrs, sIni, sLit0, sIxP, sS2b, sCallV, hLd, hSt, hBox, hNew, hMk, hCallV, bin, binI, binS, bnd, shiftI, takeC, foldO, mx2, mn2, isTupL, setsA, fillA, List.getElem?_cons_zero, List.getElem?_cons_succ, List.getElem?_nil, List.length_cons, List.length_nil, shareL, share1L, cellsL, leafL, puLL, puLN, List.all_cons, List.all_nil, Bool.and_true, Bool.true_and, Bool.and_false, Bool.false_and, Bool.or_true, Bool.true_or, Bool.or_false, Bool.false_or, Bool.and_self, Bool.not_true, Bool.not_false, if_true, if_false, List.map_cons, List.map_nil, List.cons_append, List.nil_append, List.append_nil, leave, resOf, res1, resL, Hp.cut_self, ite_self, reduceIte, reduceCtorEq, Nat.reduceAdd, Nat.reduceMul, Nat.reduceEqDiff, Nat.reduceLT, Nat.reduceLeDiff, Nat.reduceSub, List.drop_zero, List.drop_succ_cons, List.take_zero, List.take_succ_cons, Int.toNat_zero, decide_true, decide_false, decide_eq_true_eq, decide_eq_false_iff_not, Bool.false_eq_true, and_true, true_and, and_self, and_false, false_and, Option.some.injEq, Nat.add_zero, Nat.zero_add, beq_self_eq_true, ne_eq, not_true_eq_false, not_false_eq_true, noOwnL, cellOkL, tgL, Hp.cut_set_self, List.set_cons_zero, List.set_cons_succ, List.length_set]
  · rintro ⟨e, hh⟩ ⟨g0, g1, g2, g3⟩
    simp only at g0 g1 g2 g3
    have k1 : ¬ ((n : Int) < n) := by omega
    simp only [b0_ref01_Text, g0, g1, g2, g3, k1, post_n, post_e, post_r, post_seq, post_block, post_cond, post_skip, post_exit, post_ret, post_ops, inBlk_e, inBlk_r, done, doneQ_r, doneP, donePQ_r, xcons, xnil, step, stepGo, rds, rd, updO, upd, init, semH, sem, semT, sMv, sPick, sNil, sAgg, sLit, sBin, neg, sBeq, sEqs, sNilI, sNilP, sNilF, sNot, sNeg, sXor, sConv, sConvS, sB2s, sMkI, sMkF, sRep, sSlS, sSlL, sFa, sFld, sIxA, sIxS, sIxG, sAsrt, sExt, sLdI, sLenS, sLenL, sMx, sMn, sApp, sAppS, sBox, sFrs, sIni, sLit0, sIxP, sS2b, sCallV, hLd, hSt, hBox, hNew, hMk, hCallV, bin, binI, binS, bnd, shiftI, takeC, foldO, mx2, mn2, isTupL, setsA, fillA, List.getElem?_cons_zero, List.getElem?_cons_succ, List.getElem?_nil, List.length_cons, List.length_nil, shareL, share1L, cellsL, leafL, puLL, puLN, List.all_cons, List.all_nil, Bool.and_true, Bool.true_and, Bool.and_false, Bool.false_and, Bool.or_true, Bool.true_or, Bool.or_false, Bool.false_or, Bool.and_self, Bool.not_true, Bool.not_false, if_true, if_false, List.map_cons, List.map_nil, List.cons_append, List.nil_append, List.append_nil, leave, resOf, res1, resL, Hp.cut_self, ite_self, reduceIte, reduceCtorEq, Nat.reduceAdd, Nat.reduceMul, Nat.reduceEqDiff, Nat.reduceLT, Nat.reduceLeDiff, Nat.reduceSub, List.drop_zero, List.drop_succ_cons, List.take_zero, List.take_succ_cons, Int.toNat_zero, decide_true, decide_false, decide_eq_true_eq, decide_eq_false_iff_not, Bool.false_eq_true, and_true, true_and, and_self, and_false, false_and, Option.some.injEq, Nat.add_zero, Nat.zero_add, beq_self_eq_true, ne_eq, not_true_eq_false, not_false_eq_true, noOwnL, cellOkL, tgL, Hp.cut_set_self, List.set_cons_zero, List.set_cons_succ, List.length_set]
end Go.Vm.S
