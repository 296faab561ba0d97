/- Errors of package fault: errors.As over them, and fault.Of, as the abstract machine carries them out; no conditions. -/
import Derived.Test.YtacifbbmfkampaaDoorE
import Derived.Test.YtacifbbmfkampaaDoorVmR
namespace Go.Vm.S
open Go Go.Vm
set_option linter.unusedSimpArgs false
set_option linter.unusedVariables false
/-- Errors: a class, wrapped by sections and places. -/
inductive Er where
  | cls (k : Int)
  | sec (n : Int) (e : Er)
  | plc (n : Int) (e : Er)
def Er.av : Er → AV
  | .cls k => .ifc t_fault_class (.int .i64 k)
  | .sec n e => .ifc t_pfault_section (.imm [.int .i64 n, e.av] 0)
  | .plc n e => .ifc t_pfault_place (.imm [.int .i64 n, e.av] 0)
def Er.ty : Er → Nat | .cls _ => t_fault_class | .sec _ _ => t_pfault_section | .plc _ _ => t_pfault_place
def Er.pay : Er → AV | .cls k => .int .i64 k | .sec n e => .imm [.int .i64 n, e.av] 0 | .plc n e => .imm [.int .i64 n, e.av] 0
theorem Er.av_eq (e : Er) : e.av = .ifc e.ty e.pay := by cases e <;> rfl
theorem Er.av_pu : ∀ e : Er, e.av.pu = true
  | .cls k => rfl
  | .sec n e => by simp [Er.av, AV.pu, AV.pu.puL, e.av_pu]
  | .plc n e => by simp [Er.av, AV.pu, AV.pu.puL, e.av_pu]
theorem Er.pay_pu (e : Er) : e.pay.pu = true := by have := e.av_pu; rw [e.av_eq] at this; exact this
theorem Er.pay_leaf (e : Er) : e.pay.leaf = true := by cases e <;> rfl
theorem Er.pay_share1 (e : Er) : e.pay.share1 = e.pay := by cases e <;> rfl
theorem Er.pay_share (e : Er) : e.pay.share = e.pay := by cases e <;> rfl
theorem Er.pay_cells (e : Er) : e.pay.cells = [e.pay] := by cases e <;> rfl
theorem Er.pay_ok (e : Er) (id : Nat) : e.pay.cellOk id = true := by cases e <;> simp [Er.pay, AV.cellOk, AV.leaf, AV.pu, AV.pu.puL, Er.av_pu]
theorem Er.av_share (e : Er) : e.av.share = e.av := by cases e <;> rfl
theorem Er.av_share1 (e : Er) : e.av.share1 = e.av := by cases e <;> rfl
theorem Er.av_leaf (e : Er) : e.av.leaf = true := by cases e <;> rfl
theorem Er.av_tup (e : Er) : e.av.isTup = false := by cases e <;> rfl
theorem tyE : (∀ k, Er.ty (.cls k) = t_fault_class) ∧ (∀ n e, Er.ty (.sec n e) = t_pfault_section) ∧ (∀ n e, Er.ty (.plc n e) = t_pfault_place) := ⟨fun _ => rfl, fun _ _ => rfl, fun _ _ => rfl⟩
theorem payE : (∀ k, Er.pay (.cls k) = .int .i64 k) ∧ (∀ n e, Er.pay (.sec n e) = .imm [.int .i64 n, e.av] 0) ∧ (∀ n e, Er.pay (.plc n e) = .imm [.int .i64 n, e.av] 0) := ⟨fun _ => rfl, fun _ _ => rfl, fun _ _ => rfl⟩
def Er.fl : Er → Int | .cls _ => 130 | .sec _ _ => 150 | .plc _ _ => 150
theorem flE : (∀ k, Er.fl (.cls k) = 130) ∧ (∀ n e, Er.fl (.sec n e) = 150) ∧ (∀ n e, Er.fl (.plc n e) = 150) := ⟨fun _ => rfl, fun _ _ => rfl, fun _ _ => rfl⟩
/-- The first link of a type. -/
def hit (T : Nat) (e : Er) : Option AV := if e.ty = T then some e.pay else match e with
  | .cls k => none
  | .sec n e => hit T e
  | .plc n e => hit T e
/-- The targets: a type, the pointer to it, the flags of its Value that can be set. -/
inductive Tgt : Nat → Nat → Int → Prop
  | cls : Tgt t_fault_class t_pfault_class 386
  | sec : Tgt t_pfault_section t_ppfault_section 406
  | plc : Tgt t_pfault_place t_ppfault_place 406
def hitR (h : Hp) (id : Nat) : Option AV → AV × Hp
  | some p => (.bool true, h.set id [p])
  | none => (.bool false, h)

theorem unw_sec (n : Int) (e : Er) (h : Hp) : evT E f__pfault_section__Unwrap [.imm [.int .i64 n, e.av] 0] h = some (e.av, h) := by
  refine evT_fn tame e__pfault_section__Unwrap rfl ?_
  simp only [a__pfault_section__Unwrap, Er.av_pu, Er.av_share, Er.av_share1, Er.av_leaf, post_n, post_e, post_r, post_seq, post_block, post_cond, post_skip, post_exit, post_ret, post_ops, inBlk_e, inBlk_r, done, doneQ_r, doneP, donePQ_r, xcons, xnil, step, stepGo, rds, rd, updO, upd, init, semH, sem, semT, sMv, sPick, sNil, sAgg, sLit, sBin, neg, sBeq, sEqs, sNilI, sNilP, sNilF, sNot, sNeg, sXor, sConv, sConvS, sB2s, sMkI, sMkF, sRep, sSlS, sSlL, sFa, sFld, sIxA, sIxS, sIxG, sAsrt, sExt, sLdI, sLenS, sLenL, sMx, sMn, sApp, sAppS, sBox, sFrs, sIni, sLit0, sIxP, sS2b, sCallV, hLd, hSt, hBox, hNew, hMk, hCallV, bin, binI, binS, bnd, shiftI, takeC, foldO, mx2, mn2, isTupL, setsA, fillA, List.getElem?_cons_zero, List.getElem?_cons_succ, List.getElem?_nil, List.length_cons, List.length_nil, shareL, share1L, cellsL, leafL, puLL, puLN, List.all_cons, List.all_nil, Bool.and_true, Bool.true_and, Bool.and_false, Bool.false_and, Bool.or_true, Bool.true_or, Bool.or_false, Bool.false_or, Bool.and_self, Bool.not_true, Bool.not_false, if_true, if_false, List.map_cons, List.map_nil, List.cons_append, List.nil_append, List.append_nil, leave, resOf, res1, resL, Hp.cut_self, ite_self, reduceIte, reduceCtorEq, Nat.reduceAdd, Nat.reduceMul, Nat.reduceEqDiff, Nat.reduceLT, Nat.reduceLeDiff, Nat.reduceSub, List.drop_zero, List.drop_succ_cons, List.take_zero, List.take_succ_cons, Int.toNat_zero, decide_true, decide_false, decide_eq_true_eq, decide_eq_false_iff_not, Bool.false_eq_true, and_true, true_and, and_self, and_false, false_and, Option.some.injEq, Nat.add_zero, Nat.zero_add, beq_self_eq_true, ne_eq, not_true_eq_false, not_false_eq_true, noOwnL, cellOkL, tgL, Hp.cut_set_self, List.set_cons_zero, List.set_cons_succ, List.length_set]
theorem unw_plc (n : Int) (e : Er) (h : Hp) : evT E f__pfault_place__Unwrap [.imm [.int .i64 n, e.av] 0] h = some (e.av, h) := by
  refine evT_fn tame e__pfault_place__Unwrap rfl ?_
  simp only [a__pfault_place__Unwrap, Er.av_pu, Er.av_share, Er.av_share1, Er.av_leaf, post_n, post_e, post_r, post_seq, post_block, post_cond, post_skip, post_exit, post_ret, post_ops, inBlk_e, inBlk_r, done, doneQ_r, doneP, donePQ_r, xcons, xnil, step, stepGo, rds, rd, updO, upd, init, semH, sem, semT, sMv, sPick, sNil, sAgg, sLit, sBin, neg, sBeq, sEqs, sNilI, sNilP, sNilF, sNot, sNeg, sXor, sConv, sConvS, sB2s, sMkI, sMkF, sRep, sSlS, sSlL, sFa, sFld, sIxA, sIxS, sIxG, sAsrt, sExt, sLdI, sLenS, sLenL, sMx, sMn, sApp, sAppS, sBox, sFrs, sIni, sLit0, sIxP, sS2b, sCallV, hLd, hSt, hBox, hNew, hMk, hCallV, bin, binI, binS, bnd, shiftI, takeC, foldO, mx2, mn2, isTupL, setsA, fillA, List.getElem?_cons_zero, List.getElem?_cons_succ, List.getElem?_nil, List.length_cons, List.length_nil, shareL, share1L, cellsL, leafL, puLL, puLN, List.all_cons, List.all_nil, Bool.and_true, Bool.true_and, Bool.and_false, Bool.false_and, Bool.or_true, Bool.true_or, Bool.or_false, Bool.false_or, Bool.and_self, Bool.not_true, Bool.not_false, if_true, if_false, List.map_cons, List.map_nil, List.cons_append, List.nil_append, List.append_nil, leave, resOf, res1, resL, Hp.cut_self, ite_self, reduceIte, reduceCtorEq, Nat.reduceAdd, Nat.reduceMul, Nat.reduceEqDiff, Nat.reduceLT, Nat.reduceLeDiff, Nat.reduceSub, List.drop_zero, List.drop_succ_cons, List.take_zero, List.take_succ_cons, Int.toNat_zero, decide_true, decide_false, decide_eq_true_eq, decide_eq_false_iff_not, Bool.false_eq_true, and_true, true_and, and_self, and_false, false_and, Option.some.injEq, Nat.add_zero, Nat.zero_add, beq_self_eq_true, ne_eq, not_true_eq_false, not_false_eq_true, noOwnL, cellOkL, tgL, Hp.cut_set_self, List.set_cons_zero, List.set_cons_succ, List.length_set]

section
variable {T pT : Nat} {fT : Int}
abbrev tyV (t : Nat) : AV := .ifc n_rty (.agg [.hdl t])
abbrev tgV (pT id : Nat) : AV := .agg [.hdl pT, .imm [.ref id 0] 0, .int .u64 150]
theorem x_typeOf (e : Er) (h : Hp) : evT E n_TypeOf [.ifc e.ty e.pay] h = some (tyV e.ty, h) := (xeq_TypeOf _ _).trans (by cases e <;> rfl)
theorem x_assign (hT : Tgt T pT fT) (e : Er) (h : Hp) : evT E n_AssignableTo [tyV e.ty, tyV T] h = some (.bool (decide (e.ty = T)), h) := (xeq_AssignableTo _ _).trans (by cases hT <;> cases e <;> rfl)
theorem x_asAs (e : Er) (h : Hp) : evT E n_asAs [.ifc e.ty e.pay] h = some (.tup [.nili, .bool false], h) := (xeq_asAs _ _).trans (by cases e <;> rfl)
theorem x_asUnws (e : Er) (h : Hp) : evT E n_asUnws [.ifc e.ty e.pay] h = some (.tup [.nili, .bool false], h) := (xeq_asUnws _ _).trans (by cases e <;> rfl)
theorem x_asUnw_cls (k : Int) (h : Hp) : evT E n_asUnw [.ifc t_fault_class (.int .i64 k)] h = some (.tup [.nili, .bool false], h) := (xeq_asUnw _ _).trans rfl
theorem x_asUnw_sec (x : AV) (h : Hp) : evT E n_asUnw [.ifc t_pfault_section x] h = some (.tup [.ifc t_pfault_section x, .bool true], h) := (xeq_asUnw _ _).trans rfl
theorem x_asUnw_plc (x : AV) (h : Hp) : evT E n_asUnw [.ifc t_pfault_place x] h = some (.tup [.ifc t_pfault_place x, .bool true], h) := (xeq_asUnw _ _).trans rfl
theorem x_unw_sec (n : Int) (e : Er) (h : Hp) : evT E n_Unwrap [.ifc t_pfault_section (.imm [.int .i64 n, e.av] 0)] h = some (e.av, h) := (xeq_Unwrap _ _).trans (unw_sec n e h)
theorem x_unw_plc (n : Int) (e : Er) (h : Hp) : evT E n_Unwrap [.ifc t_pfault_place (.imm [.int .i64 n, e.av] 0)] h = some (e.av, h) := (xeq_Unwrap _ _).trans (unw_plc n e h)
theorem x_velem (hT : Tgt T pT fT) (id : Nat) (h : Hp) : evT E n_VElem [tgV pT id] h = some (.agg [.hdl T, .ref id 0, .int .u64 fT], h) := (xeq_VElem _ _).trans (by cases hT <;> rfl)
theorem x_valueOf (e : Er) (h : Hp) : evT E n_ValueOf [.ifc e.ty e.pay] h = some (.agg [.hdl e.ty, .imm [e.pay] 0, .int .u64 e.fl], h) := (xeq_ValueOf _ _).trans (by cases e <;> rfl)
theorem x_vset (hT : Tgt T pT fT) (e : Er) (he : e.ty = T) (h : Hp) (id : Nat) (old : AV) (hm : h.m id = some [old]) :
    evT E n_VSet [.agg [.hdl T, .ref id 0, .int .u64 fT], .agg [.hdl e.ty, .imm [e.pay] 0, .int .u64 e.fl]] h = some (.tup [], h.set id [e.pay]) := by
  have key : hSt 1 h [.ref id 0, e.pay.share] = some (.tup [], h.set id [e.pay]) := by
    simp only [hSt, hm, Er.pay_share, Er.pay_cells, Er.pay_share1, List.all_cons, List.all_nil, Er.pay_ok, List.map_cons, List.map_nil, setsA, List.length_cons, List.length_nil, List.set_cons_zero]
    simp
  refine (xeq_VSet _ _).trans ?_
  subst he
  cases e <;> cases hT <;> exact key
theorem x_valueOfT (hT : Tgt T pT fT) (id : Nat) (h : Hp) : evT E n_ValueOf [.ifc pT (.ref id 0)] h = some (tgV pT id, h) := (xeq_ValueOf _ _).trans (by cases hT <;> rfl)
theorem x_type (hT : Tgt T pT fT) (id : Nat) (h : Hp) : evT E n_Type [tgV pT id] h = some (tyV pT, h) := (xeq_Type _ _).trans (by cases hT <;> rfl)
theorem x_isNil (hT : Tgt T pT fT) (id : Nat) (h : Hp) : evT E n_IsNil [tgV pT id] h = some (.bool false, h) := (xeq_IsNil _ _).trans (by cases hT <;> rfl)
theorem x_kindP (hT : Tgt T pT fT) (h : Hp) : evT E n_Kind [tyV pT] h = some (.int .u8 22, h) := (xeq_Kind _ _).trans (by cases hT <;> rfl)
theorem x_kindT (hT : Tgt T pT fT) (h : Hp) : ∃ k : Int, k ≠ 20 ∧ evT E n_Kind [tyV T] h = some (.int .u8 k, h) := by
  cases hT
  · exact ⟨2, by decide, (xeq_Kind _ _).trans rfl⟩
  · exact ⟨22, by decide, (xeq_Kind _ _).trans rfl⟩
  · exact ⟨22, by decide, (xeq_Kind _ _).trans rfl⟩
theorem x_elem (hT : Tgt T pT fT) (h : Hp) : evT E n_Elem [tyV pT] h = some (tyV T, h) := (xeq_Elem _ _).trans (by cases hT <;> rfl)
theorem x_implements (hT : Tgt T pT fT) (h : Hp) : evT E n_Implements [tyV T, tyV t_error] h = some (.bool true, h) := (xeq_Implements _ _).trans (by cases hT <;> rfl)
theorem x_glob (h : Hp) : evT E n_glob [] h = some (tyV t_error, h) := (xeq_glob _ _).trans rfl

theorem as_loop (hT : Tgt T pT fT) (h : Hp) (id : Nat) (old : AV) (hm : h.m id = some [old]) (K : Env × Hp → Prop) (Q : AExit × Env × Hp → Prop) : ∀ (e : Er) (s : Env × Hp), s.2 = h → s.1 0 = e.av → s.1 1 = .ifc pT (.ref id 0) →
    s.1 3 = tyV T → s.1 6 = .imm [.hdl pT, .imm [.ref id 0] 0, .int .u64 150] 0 →
    (∀ s' : Env × Hp, (s'.1 8, s'.2) = hitR h id (hit T e) → Q (.ret, s')) → Post K Q (evX (evT E) (.loop b1_errors_as) s) := by
  intro e
  induction e with
  | cls k =>
    rintro ⟨env, hh⟩ g0 g1 g2 g3 g4 hq
    simp only at g0 g1 g2 g3 g4
    subst g0
    have t1 := x_typeOf (.cls k) hh
    have t2 := x_assign hT (.cls k) hh
    have t3 := x_asAs (.cls k) hh
    have t4 := x_asUnws (.cls k) hh
    have t5 := x_asUnw_cls k hh
    have t6 := x_velem hT id hh
    have t7 := x_valueOf (.cls k) hh
    rw [evX_loop]
    by_cases he : Er.ty (.cls k) = T
    · subst he
      have t8 := x_vset hT (.cls k) rfl hh id old hm
      have hh1 : hit (Er.ty (.cls k)) (.cls k) = some (.int .i64 k) := by unfold hit; rw [if_pos rfl]; rfl
      simp only [tyE, payE, flE] at t1 t2 t3 t4 t5 t6 t7 t8 g3
      rw [hh1] at hq
      simp only [b1_errors_as, g1, g2, g3, g4, hm, Er.av, t1, t2, t6, t7, t8, eq_self, xseq, xops, xcond, xblock, xret, xexit, xskip, post_n, post_e, post_r, post_seq, post_block, post_cond, post_skip, post_exit, post_ret, post_ops, inBlk_e, inBlk_r, done, doneQ_r, doneP, donePQ_r, xcons, xnil, step, stepGo, rds, rd, updO, upd, init, semH, sem, semT, sMv, sPick, sNil, sAgg, sLit, sBin, neg, sBeq, sEqs, sNilI, sNilP, sNilF, sNot, sNeg, sXor, sConv, sConvS, sB2s, sMkI, sMkF, sRep, sSlS, sSlL, sFa, sFld, sIxA, sIxS, sIxG, sAsrt, sExt, sLdI, sLenS, sLenL, sMx, sMn, sApp, sAppS, sBox, sFrs, sIni, sLit0, sIxP, sS2b, sCallV, hLd, hSt, hBox, hNew, hMk, hCallV, bin, binI, binS, bnd, shiftI, takeC, foldO, mx2, mn2, isTupL, setsA, fillA, List.getElem?_cons_zero, List.getElem?_cons_succ, List.getElem?_nil, List.length_cons, List.length_nil, shareL, share1L, cellsL, leafL, puLL, puLN, List.all_cons, List.all_nil, Bool.and_true, Bool.true_and, Bool.and_false, Bool.false_and, Bool.or_true, Bool.true_or, Bool.or_false, Bool.false_or, Bool.and_self, Bool.not_true, Bool.not_false, if_true, if_false, List.map_cons, List.map_nil, List.cons_append, List.nil_append, List.append_nil, leave, resOf, res1, resL, Hp.cut_self, ite_self, reduceIte, reduceCtorEq, Nat.reduceAdd, Nat.reduceMul, Nat.reduceEqDiff, Nat.reduceLT, Nat.reduceLeDiff, Nat.reduceSub, List.drop_zero, List.drop_succ_cons, List.take_zero, List.take_succ_cons, Int.toNat_zero, decide_true, decide_false, decide_eq_true_eq, decide_eq_false_iff_not, Bool.false_eq_true, and_true, true_and, and_self, and_false, false_and, Option.some.injEq, Nat.add_zero, Nat.zero_add, beq_self_eq_true, ne_eq, not_true_eq_false, not_false_eq_true, noOwnL, cellOkL, tgL, Hp.cut_set_self, List.set_cons_zero, List.set_cons_succ, List.length_set]
      refine hq _ ?_
      rfl
    · simp only [tyE, payE, flE] at t1 t2 t3 t4 t5 t6 t7 he
      have hh1 : hit T (.cls k) = none := by unfold hit; rw [if_neg (by simpa [tyE] using he)]
      rw [hh1] at hq
      simp only [b1_errors_as, g1, g2, g3, g4, hm, Er.av, t1, t2, t3, t4, t5, he, xseq, xops, xcond, xblock, xret, xexit, xskip, post_n, post_e, post_r, post_seq, post_block, post_cond, post_skip, post_exit, post_ret, post_ops, inBlk_e, inBlk_r, done, doneQ_r, doneP, donePQ_r, xcons, xnil, step, stepGo, rds, rd, updO, upd, init, semH, sem, semT, sMv, sPick, sNil, sAgg, sLit, sBin, neg, sBeq, sEqs, sNilI, sNilP, sNilF, sNot, sNeg, sXor, sConv, sConvS, sB2s, sMkI, sMkF, sRep, sSlS, sSlL, sFa, sFld, sIxA, sIxS, sIxG, sAsrt, sExt, sLdI, sLenS, sLenL, sMx, sMn, sApp, sAppS, sBox, sFrs, sIni, sLit0, sIxP, sS2b, sCallV, hLd, hSt, hBox, hNew, hMk, hCallV, bin, binI, binS, bnd, shiftI, takeC, foldO, mx2, mn2, isTupL, setsA, fillA, List.getElem?_cons_zero, List.getElem?_cons_succ, List.getElem?_nil, List.length_cons, List.length_nil, shareL, share1L, cellsL, leafL, puLL, puLN, List.all_cons, List.all_nil, Bool.and_true, Bool.true_and, Bool.and_false, Bool.false_and, Bool.or_true, Bool.true_or, Bool.or_false, Bool.false_or, Bool.and_self, Bool.not_true, Bool.not_false, if_true, if_false, List.map_cons, List.map_nil, List.cons_append, List.nil_append, List.append_nil, leave, resOf, res1, resL, Hp.cut_self, ite_self, reduceIte, reduceCtorEq, Nat.reduceAdd, Nat.reduceMul, Nat.reduceEqDiff, Nat.reduceLT, Nat.reduceLeDiff, Nat.reduceSub, List.drop_zero, List.drop_succ_cons, List.take_zero, List.take_succ_cons, Int.toNat_zero, decide_true, decide_false, decide_eq_true_eq, decide_eq_false_iff_not, Bool.false_eq_true, and_true, true_and, and_self, and_false, false_and, Option.some.injEq, Nat.add_zero, Nat.zero_add, beq_self_eq_true, ne_eq, not_true_eq_false, not_false_eq_true, noOwnL, cellOkL, tgL, Hp.cut_set_self, List.set_cons_zero, List.set_cons_succ, List.length_set]
      refine hq _ ?_
      rfl
  | sec n e ih =>
    rintro ⟨env, hh⟩ g0 g1 g2 g3 g4 hq
    simp only at g0 g1 g2 g3 g4
    subst g0
    have t1 := x_typeOf (.sec n e) hh
    have t2 := x_assign hT (.sec n e) hh
    have t3 := x_asAs (.sec n e) hh
    have t5 := x_asUnw_sec (.imm [.int .i64 n, e.av] 0) hh
    have t9 := x_unw_sec n e hh
    have t6 := x_velem hT id hh
    have t7 := x_valueOf (.sec n e) hh
    rw [evX_loop]
    by_cases he : Er.ty (.sec n e) = T
    · subst he
      have t8 := x_vset hT (.sec n e) rfl hh id old hm
      have hh1 : hit (Er.ty (.sec n e)) (.sec n e) = some (.imm [.int .i64 n, e.av] 0) := by unfold hit; rw [if_pos rfl]; rfl
      simp only [tyE, payE, flE] at t1 t2 t3 t5 t6 t7 t8 g3
      rw [hh1] at hq
      simp only [b1_errors_as, g1, g2, g3, g4, hm, Er.av, t1, t2, t6, t7, t8, eq_self, xseq, xops, xcond, xblock, xret, xexit, xskip, Er.av_pu, post_n, post_e, post_r, post_seq, post_block, post_cond, post_skip, post_exit, post_ret, post_ops, inBlk_e, inBlk_r, done, doneQ_r, doneP, donePQ_r, xcons, xnil, step, stepGo, rds, rd, updO, upd, init, semH, sem, semT, sMv, sPick, sNil, sAgg, sLit, sBin, neg, sBeq, sEqs, sNilI, sNilP, sNilF, sNot, sNeg, sXor, sConv, sConvS, sB2s, sMkI, sMkF, sRep, sSlS, sSlL, sFa, sFld, sIxA, sIxS, sIxG, sAsrt, sExt, sLdI, sLenS, sLenL, sMx, sMn, sApp, sAppS, sBox, sFrs, sIni, sLit0, sIxP, sS2b, sCallV, hLd, hSt, hBox, hNew, hMk, hCallV, bin, binI, binS, bnd, shiftI, takeC, foldO, mx2, mn2, isTupL, setsA, fillA, List.getElem?_cons_zero, List.getElem?_cons_succ, List.getElem?_nil, List.length_cons, List.length_nil, shareL, share1L, cellsL, leafL, puLL, puLN, List.all_cons, List.all_nil, Bool.and_true, Bool.true_and, Bool.and_false, Bool.false_and, Bool.or_true, Bool.true_or, Bool.or_false, Bool.false_or, Bool.and_self, Bool.not_true, Bool.not_false, if_true, if_false, List.map_cons, List.map_nil, List.cons_append, List.nil_append, List.append_nil, leave, resOf, res1, resL, Hp.cut_self, ite_self, reduceIte, reduceCtorEq, Nat.reduceAdd, Nat.reduceMul, Nat.reduceEqDiff, Nat.reduceLT, Nat.reduceLeDiff, Nat.reduceSub, List.drop_zero, List.drop_succ_cons, List.take_zero, List.take_succ_cons, Int.toNat_zero, decide_true, decide_false, decide_eq_true_eq, decide_eq_false_iff_not, Bool.false_eq_true, and_true, true_and, and_self, and_false, false_and, Option.some.injEq, Nat.add_zero, Nat.zero_add, beq_self_eq_true, ne_eq, not_true_eq_false, not_false_eq_true, noOwnL, cellOkL, tgL, Hp.cut_set_self, List.set_cons_zero, List.set_cons_succ, List.length_set]
      refine hq _ ?_
      rfl
    · simp only [tyE, payE, flE, e.av_eq] at t1 t2 t3 t5 t6 t7 t9 he
      have hh1 : hit T (.sec n e) = hit T e := by rw [hit]; exact if_neg (by simpa [tyE] using he)
      rw [hh1] at hq
      simp only [b1_errors_as, g1, g2, g3, g4, hm, Er.av, Er.av_eq e, t1, t2, t3, t5, t9, he, xseq, xops, xcond, xblock, xret, xexit, xskip, Er.pay_pu, post_n, post_e, post_r, post_seq, post_block, post_cond, post_skip, post_exit, post_ret, post_ops, inBlk_e, inBlk_r, done, doneQ_r, doneP, donePQ_r, xcons, xnil, step, stepGo, rds, rd, updO, upd, init, semH, sem, semT, sMv, sPick, sNil, sAgg, sLit, sBin, neg, sBeq, sEqs, sNilI, sNilP, sNilF, sNot, sNeg, sXor, sConv, sConvS, sB2s, sMkI, sMkF, sRep, sSlS, sSlL, sFa, sFld, sIxA, sIxS, sIxG, sAsrt, sExt, sLdI, sLenS, sLenL, sMx, sMn, sApp, sAppS, sBox, sFrs, sIni, sLit0, sIxP, sS2b, sCallV, hLd, hSt, hBox, hNew, hMk, hCallV, bin, binI, binS, bnd, shiftI, takeC, foldO, mx2, mn2, isTupL, setsA, fillA, List.getElem?_cons_zero, List.getElem?_cons_succ, List.getElem?_nil, List.length_cons, List.length_nil, shareL, share1L, cellsL, leafL, puLL, puLN, List.all_cons, List.all_nil, Bool.and_true, Bool.true_and, Bool.and_false, Bool.false_and, Bool.or_true, Bool.true_or, Bool.or_false, Bool.false_or, Bool.and_self, Bool.not_true, Bool.not_false, if_true, if_false, List.map_cons, List.map_nil, List.cons_append, List.nil_append, List.append_nil, leave, resOf, res1, resL, Hp.cut_self, ite_self, reduceIte, reduceCtorEq, Nat.reduceAdd, Nat.reduceMul, Nat.reduceEqDiff, Nat.reduceLT, Nat.reduceLeDiff, Nat.reduceSub, List.drop_zero, List.drop_succ_cons, List.take_zero, List.take_succ_cons, Int.toNat_zero, decide_true, decide_false, decide_eq_true_eq, decide_eq_false_iff_not, Bool.false_eq_true, and_true, true_and, and_self, and_false, false_and, Option.some.injEq, Nat.add_zero, Nat.zero_add, beq_self_eq_true, ne_eq, not_true_eq_false, not_false_eq_true, noOwnL, cellOkL, tgL, Hp.cut_set_self, List.set_cons_zero, List.set_cons_succ, List.length_set]
      refine ih _ ?_ ?_ ?_ ?_ ?_ hq
      · rfl
      · exact e.av_eq.symm
      · exact g2
      · exact g3
      · exact g4
  | plc n e ih =>
    rintro ⟨env, hh⟩ g0 g1 g2 g3 g4 hq
    simp only at g0 g1 g2 g3 g4
    subst g0
    have t1 := x_typeOf (.plc n e) hh
    have t2 := x_assign hT (.plc n e) hh
    have t3 := x_asAs (.plc n e) hh
    have t5 := x_asUnw_plc (.imm [.int .i64 n, e.av] 0) hh
    have t9 := x_unw_plc n e hh
    have t6 := x_velem hT id hh
    have t7 := x_valueOf (.plc n e) hh
    rw [evX_loop]
    by_cases he : Er.ty (.plc n e) = T
    · subst he
      have t8 := x_vset hT (.plc n e) rfl hh id old hm
      have hh1 : hit (Er.ty (.plc n e)) (.plc n e) = some (.imm [.int .i64 n, e.av] 0) := by unfold hit; rw [if_pos rfl]; rfl
      simp only [tyE, payE, flE] at t1 t2 t3 t5 t6 t7 t8 g3
      rw [hh1] at hq
      simp only [b1_errors_as, g1, g2, g3, g4, hm, Er.av, t1, t2, t6, t7, t8, eq_self, xseq, xops, xcond, xblock, xret, xexit, xskip, Er.av_pu, post_n, post_e, post_r, post_seq, post_block, post_cond, post_skip, post_exit, post_ret, post_ops, inBlk_e, inBlk_r, done, doneQ_r, doneP, donePQ_r, xcons, xnil, step, stepGo, rds, rd, updO, upd, init, semH, sem, semT, sMv, sPick, sNil, sAgg, sLit, sBin, neg, sBeq, sEqs, sNilI, sNilP, sNilF, sNot, sNeg, sXor, sConv, sConvS, sB2s, sMkI, sMkF, sRep, sSlS, sSlL, sFa, sFld, sIxA, sIxS, sIxG, sAsrt, sExt, sLdI, sLenS, sLenL, sMx, sMn, sApp, sAppS, sBox, sFrs, sIni, sLit0, sIxP, sS2b, sCallV, hLd, hSt, hBox, hNew, hMk, hCallV, bin, binI, binS, bnd, shiftI, takeC, foldO, mx2, mn2, isTupL, setsA, fillA, List.getElem?_cons_zero, List.getElem?_cons_succ, List.getElem?_nil, List.length_cons, List.length_nil, shareL, share1L, cellsL, leafL, puLL, puLN, List.all_cons, List.all_nil, Bool.and_true, Bool.true_and, Bool.and_false, Bool.false_and, Bool.or_true, Bool.true_or, Bool.or_false, Bool.false_or, Bool.and_self, Bool.not_true, Bool.not_false, if_true, if_false, List.map_cons, List.map_nil, List.cons_append, List.nil_append, List.append_nil, leave, resOf, res1, resL, Hp.cut_self, ite_self, reduceIte, reduceCtorEq, Nat.reduceAdd, Nat.reduceMul, Nat.reduceEqDiff, Nat.reduceLT, Nat.reduceLeDiff, Nat.reduceSub, List.drop_zero, List.drop_succ_cons, List.take_zero, List.take_succ_cons, Int.toNat_zero, decide_true, decide_false, decide_eq_true_eq, decide_eq_false_iff_not, Bool.false_eq_true, and_true, true_and, and_self, and_false, false_and, Option.some.injEq, Nat.add_zero, Nat.zero_add, beq_self_eq_true, ne_eq, not_true_eq_false, not_false_eq_true, noOwnL, cellOkL, tgL, Hp.cut_set_self, List.set_cons_zero, List.set_cons_succ, List.length_set]
      refine hq _ ?_
      rfl
    · simp only [tyE, payE, flE, e.av_eq] at t1 t2 t3 t5 t6 t7 t9 he
      have hh1 : hit T (.plc n e) = hit T e := by rw [hit]; exact if_neg (by simpa [tyE] using he)
      rw [hh1] at hq
      simp only [b1_errors_as, g1, g2, g3, g4, hm, Er.av, Er.av_eq e, t1, t2, t3, t5, t9, he, xseq, xops, xcond, xblock, xret, xexit, xskip, Er.pay_pu, post_n, post_e, post_r, post_seq, post_block, post_cond, post_skip, post_exit, post_ret, post_ops, inBlk_e, inBlk_r, done, doneQ_r, doneP, donePQ_r, xcons, xnil, step, stepGo, rds, rd, updO, upd, init, semH, sem, semT, sMv, sPick, sNil, sAgg, sLit, sBin, neg, sBeq, sEqs, sNilI, sNilP, sNilF, sNot, sNeg, sXor, sConv, sConvS, sB2s, sMkI, sMkF, sRep, sSlS, sSlL, sFa, sFld, sIxA, sIxS, sIxG, sAsrt, sExt, sLdI, sLenS, sLenL, sMx, sMn, sApp, sAppS, sBox, sFrs, sIni, sLit0, sIxP, sS2b, sCallV, hLd, hSt, hBox, hNew, hMk, hCallV, bin, binI, binS, bnd, shiftI, takeC, foldO, mx2, mn2, isTupL, setsA, fillA, List.getElem?_cons_zero, List.getElem?_cons_succ, List.getElem?_nil, List.length_cons, List.length_nil, shareL, share1L, cellsL, leafL, puLL, puLN, List.all_cons, List.all_nil, Bool.and_true, Bool.true_and, Bool.and_false, Bool.false_and, Bool.or_true, Bool.true_or, Bool.or_false, Bool.false_or, Bool.and_self, Bool.not_true, Bool.not_false, if_true, if_false, List.map_cons, List.map_nil, List.cons_append, List.nil_append, List.append_nil, leave, resOf, res1, resL, Hp.cut_self, ite_self, reduceIte, reduceCtorEq, Nat.reduceAdd, Nat.reduceMul, Nat.reduceEqDiff, Nat.reduceLT, Nat.reduceLeDiff, Nat.reduceSub, List.drop_zero, List.drop_succ_cons, List.take_zero, List.take_succ_cons, Int.toNat_zero, decide_true, decide_false, decide_eq_true_eq, decide_eq_false_iff_not, Bool.false_eq_true, and_true, true_and, and_self, and_false, false_and, Option.some.injEq, Nat.add_zero, Nat.zero_add, beq_self_eq_true, ne_eq, not_true_eq_false, not_false_eq_true, noOwnL, cellOkL, tgL, Hp.cut_set_self, List.set_cons_zero, List.set_cons_succ, List.length_set]
      refine ih _ ?_ ?_ ?_ ?_ ?_ hq
      · rfl
      · exact e.av_eq.symm
      · exact g2
      · exact g3
      · exact g4

theorem as_ev (hT : Tgt T pT fT) (e : Er) (h : Hp) (id : Nat) (old : AV) (hm : h.m id = some [old]) :
    evT E f_errors_as [e.av, .ifc pT (.ref id 0), tgV pT id, tyV T] h = some (hitR h id (hit T e)) := by
  have e0 : hitR h id (hit T e) = ((hitR h id (hit T e)).1, (hitR h id (hit T e)).2) := rfl
  rw [e0]
  refine evT_fn tame e_errors_as rfl ?_
  simp only [a_errors_as, Er.av_pu, Er.av_share, Er.av_share1, Er.av_leaf, post_n, post_e, post_r, post_seq, post_block, post_cond, post_skip, post_exit, post_ret, post_ops, inBlk_e, inBlk_r, done, doneQ_r, doneP, donePQ_r, xcons, xnil, step, stepGo, rds, rd, updO, upd, init, semH, sem, semT, sMv, sPick, sNil, sAgg, sLit, sBin, neg, sBeq, sEqs, sNilI, sNilP, sNilF, sNot, sNeg, sXor, sConv, sConvS, sB2s, sMkI, sMkF, sRep, sSlS, sSlL, sFa, sFld, sIxA, sIxS, sIxG, sAsrt, sExt, sLdI, sLenS, sLenL, sMx, sMn, sApp, sAppS, sBox, sFrs, sIni, sLit0, sIxP, sS2b, sCallV, hLd, hSt, hBox, hNew, hMk, hCallV, bin, binI, binS, bnd, shiftI, takeC, foldO, mx2, mn2, isTupL, setsA, fillA, List.getElem?_cons_zero, List.getElem?_cons_succ, List.getElem?_nil, List.length_cons, List.length_nil, shareL, share1L, cellsL, leafL, puLL, puLN, List.all_cons, List.all_nil, Bool.and_true, Bool.true_and, Bool.and_false, Bool.false_and, Bool.or_true, Bool.true_or, Bool.or_false, Bool.false_or, Bool.and_self, Bool.not_true, Bool.not_false, if_true, if_false, List.map_cons, List.map_nil, List.cons_append, List.nil_append, List.append_nil, leave, resOf, res1, resL, Hp.cut_self, ite_self, reduceIte, reduceCtorEq, Nat.reduceAdd, Nat.reduceMul, Nat.reduceEqDiff, Nat.reduceLT, Nat.reduceLeDiff, Nat.reduceSub, List.drop_zero, List.drop_succ_cons, List.take_zero, List.take_succ_cons, Int.toNat_zero, decide_true, decide_false, decide_eq_true_eq, decide_eq_false_iff_not, Bool.false_eq_true, and_true, true_and, and_self, and_false, false_and, Option.some.injEq, Nat.add_zero, Nat.zero_add, beq_self_eq_true, ne_eq, not_true_eq_false, not_false_eq_true, noOwnL, cellOkL, tgL, Hp.cut_set_self, List.set_cons_zero, List.set_cons_succ, List.length_set]
  refine as_loop hT h id old hm _ _ e _ ?_ ?_ ?_ ?_ ?_ ?_
  · rfl
  · rfl
  · rfl
  · rfl
  · rfl
  · rintro ⟨env, h'⟩ hq
    have h1 : env 8 = (hitR h id (hit T e)).1 := by rw [← hq]
    have h2 : h' = (hitR h id (hit T e)).2 := by rw [← hq]
    subst h2
    simp only [h1, post_n, post_e, post_r, post_seq, post_block, post_cond, post_skip, post_exit, post_ret, post_ops, inBlk_e, inBlk_r, done, doneQ_r, doneP, donePQ_r, xcons, xnil, step, stepGo, rds, rd, updO, upd, init, semH, sem, semT, sMv, sPick, sNil, sAgg, sLit, sBin, neg, sBeq, sEqs, sNilI, sNilP, sNilF, sNot, sNeg, sXor, sConv, sConvS, sB2s, sMkI, sMkF, sRep, sSlS, sSlL, sFa, sFld, sIxA, sIxS, sIxG, sAsrt, sExt, sLdI, sLenS, sLenL, sMx, sMn, sApp, sAppS, sBox, sFrs, sIni, sLit0, sIxP, sS2b, sCallV, hLd, hSt, hBox, hNew, hMk, hCallV, bin, binI, binS, bnd, shiftI, takeC, foldO, mx2, mn2, isTupL, setsA, fillA, List.getElem?_cons_zero, List.getElem?_cons_succ, List.getElem?_nil, List.length_cons, List.length_nil, shareL, share1L, cellsL, leafL, puLL, puLN, List.all_cons, List.all_nil, Bool.and_true, Bool.true_and, Bool.and_false, Bool.false_and, Bool.or_true, Bool.true_or, Bool.or_false, Bool.false_or, Bool.and_self, Bool.not_true, Bool.not_false, if_true, if_false, List.map_cons, List.map_nil, List.cons_append, List.nil_append, List.append_nil, leave, resOf, res1, resL, Hp.cut_self, ite_self, reduceIte, reduceCtorEq, Nat.reduceAdd, Nat.reduceMul, Nat.reduceEqDiff, Nat.reduceLT, Nat.reduceLeDiff, Nat.reduceSub, List.drop_zero, List.drop_succ_cons, List.take_zero, List.take_succ_cons, Int.toNat_zero, decide_true, decide_false, decide_eq_true_eq, decide_eq_false_iff_not, Bool.false_eq_true, and_true, true_and, and_self, and_false, false_and, Option.some.injEq, Nat.add_zero, Nat.zero_add, beq_self_eq_true, ne_eq, not_true_eq_false, not_false_eq_true, noOwnL, cellOkL, tgL, Hp.cut_set_self, List.set_cons_zero, List.set_cons_succ, List.length_set]
    cases hit T e <;> simp only [hitR, post_n, post_e, post_r, post_seq, post_block, post_cond, post_skip, post_exit, post_ret, post_ops, inBlk_e, inBlk_r, done, doneQ_r, doneP, donePQ_r, xcons, xnil, step, stepGo, rds, rd, updO, upd, init, semH, sem, semT, sMv, sPick, sNil, sAgg, sLit, sBin, neg, sBeq, sEqs, sNilI, sNilP, sNilF, sNot, sNeg, sXor, sConv, sConvS, sB2s, sMkI, sMkF, sRep, sSlS, sSlL, sFa, sFld, sIxA, sIxS, sIxG, sAsrt, sExt, sLdI, sLenS, sLenL, sMx, sMn, sApp, sAppS, sBox, sFrs, sIni, sLit0, sIxP, sS2b, sCallV, hLd, hSt, hBox, hNew, hMk, hCallV, bin, binI, binS, bnd, shiftI, takeC, foldO, mx2, mn2, isTupL, setsA, fillA, List.getElem?_cons_zero, List.getElem?_cons_succ, List.getElem?_nil, List.length_cons, List.length_nil, shareL, share1L, cellsL, leafL, puLL, puLN, List.all_cons, List.all_nil, Bool.and_true, Bool.true_and, Bool.and_false, Bool.false_and, Bool.or_true, Bool.true_or, Bool.or_false, Bool.false_or, Bool.and_self, Bool.not_true, Bool.not_false, if_true, if_false, List.map_cons, List.map_nil, List.cons_append, List.nil_append, List.append_nil, leave, resOf, res1, resL, Hp.cut_self, ite_self, reduceIte, reduceCtorEq, Nat.reduceAdd, Nat.reduceMul, Nat.reduceEqDiff, Nat.reduceLT, Nat.reduceLeDiff, Nat.reduceSub, List.drop_zero, List.drop_succ_cons, List.take_zero, List.take_succ_cons, Int.toNat_zero, decide_true, decide_false, decide_eq_true_eq, decide_eq_false_iff_not, Bool.false_eq_true, and_true, true_and, and_self, and_false, false_and, Option.some.injEq, Nat.add_zero, Nat.zero_add, beq_self_eq_true, ne_eq, not_true_eq_false, not_false_eq_true, noOwnL, cellOkL, tgL, Hp.cut_set_self, List.set_cons_zero, List.set_cons_succ, List.length_set]
theorem As_ev (hT : Tgt T pT fT) (e : Er) (h : Hp) (id : Nat) (old : AV) (hm : h.m id = some [old]) :
    evT E f_errors_As [e.av, .ifc pT (.ref id 0)] h = some (hitR h id (hit T e)) := by
  have e0 : hitR h id (hit T e) = ((hitR h id (hit T e)).1, (hitR h id (hit T e)).2) := rfl
  rw [e0]
  have t1 := x_valueOfT hT id h
  have t2 := x_type hT id h
  have t3 := x_kindP hT h
  have t4 := x_isNil hT id h
  have t5 := x_elem hT h
  obtain ⟨k, hk, t6⟩ := x_kindT hT h
  have t7 := x_glob h
  have t8 := x_implements hT h
  have t9 := as_ev hT e h id old hm
  have hk2 : decide (k = 20) = false := by simpa using hk
  rw [e.av_eq] at t9
  refine evT_fn tame e_errors_As rfl ?_
  simp only [a_errors_As, Er.av_eq, Er.pay_pu, Er.pay_share, Er.pay_share1, Er.pay_leaf, t1, t2, t3, t4, t5, t6, t7, t8, t9, hk2, post_n, post_e, post_r, post_seq, post_block, post_cond, post_skip, post_exit, post_ret, post_ops, inBlk_e, inBlk_r, done, doneQ_r, doneP, donePQ_r, xcons, xnil, step, stepGo, rds, rd, updO, upd, init, semH, sem, semT, sMv, sPick, sNil, sAgg, sLit, sBin, neg, sBeq, sEqs, sNilI, sNilP, sNilF, sNot, sNeg, sXor, sConv, sConvS, sB2s, sMkI, sMkF, sRep, sSlS, sSlL, sFa, sFld, sIxA, sIxS, sIxG, sAsrt, sExt, sLdI, sLenS, sLenL, sMx, sMn, sApp, sAppS, sBox, sFrs, sIni, sLit0, sIxP, sS2b, sCallV, hLd, hSt, hBox, hNew, hMk, hCallV, bin, binI, binS, bnd, shiftI, takeC, foldO, mx2, mn2, isTupL, setsA, fillA, List.getElem?_cons_zero, List.getElem?_cons_succ, List.getElem?_nil, List.length_cons, List.length_nil, shareL, share1L, cellsL, leafL, puLL, puLN, List.all_cons, List.all_nil, Bool.and_true, Bool.true_and, Bool.and_false, Bool.false_and, Bool.or_true, Bool.true_or, Bool.or_false, Bool.false_or, Bool.and_self, Bool.not_true, Bool.not_false, if_true, if_false, List.map_cons, List.map_nil, List.cons_append, List.nil_append, List.append_nil, leave, resOf, res1, resL, Hp.cut_self, ite_self, reduceIte, reduceCtorEq, Nat.reduceAdd, Nat.reduceMul, Nat.reduceEqDiff, Nat.reduceLT, Nat.reduceLeDiff, Nat.reduceSub, List.drop_zero, List.drop_succ_cons, List.take_zero, List.take_succ_cons, Int.toNat_zero, decide_true, decide_false, decide_eq_true_eq, decide_eq_false_iff_not, Bool.false_eq_true, and_true, true_and, and_self, and_false, false_and, Option.some.injEq, Nat.add_zero, Nat.zero_add, beq_self_eq_true, ne_eq, not_true_eq_false, not_false_eq_true, noOwnL, cellOkL, tgL, Hp.cut_set_self, List.set_cons_zero, List.set_cons_succ, List.length_set]
  cases hit T e <;> simp only [hitR, post_n, post_e, post_r, post_seq, post_block, post_cond, post_skip, post_exit, post_ret, post_ops, inBlk_e, inBlk_r, done, doneQ_r, doneP, donePQ_r, xcons, xnil, step, stepGo, rds, rd, updO, upd, init, semH, sem, semT, sMv, sPick, sNil, sAgg, sLit, sBin, neg, sBeq, sEqs, sNilI, sNilP, sNilF, sNot, sNeg, sXor, sConv, sConvS, sB2s, sMkI, sMkF, sRep, sSlS, sSlL, sFa, sFld, sIxA, sIxS, sIxG, sAsrt, sExt, sLdI, sLenS, sLenL, sMx, sMn, sApp, sAppS, sBox, sFrs, sIni, sLit0, sIxP, sS2b, sCallV, hLd, hSt, hBox, hNew, hMk, hCallV, bin, binI, binS, bnd, shiftI, takeC, foldO, mx2, mn2, isTupL, setsA, fillA, List.getElem?_cons_zero, List.getElem?_cons_succ, List.getElem?_nil, List.length_cons, List.length_nil, shareL, share1L, cellsL, leafL, puLL, puLN, List.all_cons, List.all_nil, Bool.and_true, Bool.true_and, Bool.and_false, Bool.false_and, Bool.or_true, Bool.true_or, Bool.or_false, Bool.false_or, Bool.and_self, Bool.not_true, Bool.not_false, if_true, if_false, List.map_cons, List.map_nil, List.cons_append, List.nil_append, List.append_nil, leave, resOf, res1, resL, Hp.cut_self, ite_self, reduceIte, reduceCtorEq, Nat.reduceAdd, Nat.reduceMul, Nat.reduceEqDiff, Nat.reduceLT, Nat.reduceLeDiff, Nat.reduceSub, List.drop_zero, List.drop_succ_cons, List.take_zero, List.take_succ_cons, Int.toNat_zero, decide_true, decide_false, decide_eq_true_eq, decide_eq_false_iff_not, Bool.false_eq_true, and_true, true_and, and_self, and_false, false_and, Option.some.injEq, Nat.add_zero, Nat.zero_add, beq_self_eq_true, ne_eq, not_true_eq_false, not_false_eq_true, noOwnL, cellOkL, tgL, Hp.cut_set_self, List.set_cons_zero, List.set_cons_succ, List.length_set]
end

/-- What an error says. -/
def Er.cl : Er → Int | .cls k => k | .sec _ e => e.cl | .plc _ e => e.cl
def Er.fs : Er → Int | .cls _ => 0 | .sec n _ => n | .plc _ e => e.fs
def Er.fp : Er → Int | .cls _ => 0 | .sec _ e => e.fp | .plc n _ => n
theorem hit_cls : ∀ e : Er, hit t_fault_class e = some (.int .i64 e.cl)
  | .cls k => rfl
  | .sec n e => by rw [hit, if_neg (show ¬ _ from by simp only [tyE]; decide)]; exact hit_cls e
  | .plc n e => by rw [hit, if_neg (show ¬ _ from by simp only [tyE]; decide)]; exact hit_cls e
theorem hit_sec : ∀ e : Er, (hit t_pfault_section e = none ∧ e.fs = 0) ∨ ∃ e' : Er, hit t_pfault_section e = some (.imm [.int .i64 e.fs, e'.av] 0)
  | .cls k => .inl ⟨rfl, rfl⟩
  | .sec n e => .inr ⟨e, rfl⟩
  | .plc n e => by
    have h1 : hit t_pfault_section (.plc n e) = hit t_pfault_section e := by rw [hit, if_neg (show ¬ _ from by simp only [tyE]; decide)]
    rw [h1]; exact hit_sec e
theorem hit_plc : ∀ e : Er, (hit t_pfault_place e = none ∧ e.fp = 0) ∨ ∃ e' : Er, hit t_pfault_place e = some (.imm [.int .i64 e.fp, e'.av] 0)
  | .cls k => .inl ⟨rfl, rfl⟩
  | .plc n e => .inr ⟨e, rfl⟩
  | .sec n e => by
    have h1 : hit t_pfault_place (.sec n e) = hit t_pfault_place e := by rw [hit, if_neg (show ¬ _ from by simp only [tyE]; decide)]
    rw [h1]; exact hit_plc e
/-- An error, or none. -/
def errAV : Option Er → AV | none => .nili | some e => e.av
def ofAV : Option Er → AV
  | none => .agg [.int .i64 0, .int .i64 0, .int .i64 0]
  | some e => .agg [.int .i64 e.cl, .int .i64 e.fs, .int .i64 e.fp]
theorem cut_objs {h h' : Hp} (hx : h.nx ≤ h'.nx) (hm : ∀ i, i < h.nx → h'.m i = h.m i) : h'.cut h.nx = h := Hp.same rfl fun i => by
  simp only [Hp.cut]
  split
  · exact hm i ‹_›
  · exact (h.wf i (by omega)).symm
theorem m_new' (h : Hp) (cs : List AV) (i : Nat) : (h.new cs).m i = if i = h.nx then some cs else h.m i := rfl
theorem m_set' (h : Hp) (id : Nat) (cs : List AV) (i : Nat) : (h.set id cs).m i = if i = id then (h.m id).map (fun _ => cs) else h.m i := rfl
theorem Of_nil (h : Hp) : evT E f_fault_Of [.nili] h = some (ofAV none, h) := by
  refine evT_fn tame e_fault_Of rfl ?_
  simp only [a_fault_Of, m_new', m_set', Hp.nx_new, Hp.nx_set, Option.map_some, List.set_cons_zero, List.set_cons_succ, post_n, post_e, post_r, post_seq, post_block, post_cond, post_skip, post_exit, post_ret, post_ops, inBlk_e, inBlk_r, done, doneQ_r, doneP, donePQ_r, xcons, xnil, step, stepGo, rds, rd, updO, upd, init, semH, sem, semT, sMv, sPick, sNil, sAgg, sLit, sBin, neg, sBeq, sEqs, sNilI, sNilP, sNilF, sNot, sNeg, sXor, sConv, sConvS, sB2s, sMkI, sMkF, sRep, sSlS, sSlL, sFa, sFld, sIxA, sIxS, sIxG, sAsrt, sExt, sLdI, sLenS, sLenL, sMx, sMn, sApp, sAppS, sBox, sFrs, sIni, sLit0, sIxP, sS2b, sCallV, hLd, hSt, hBox, hNew, hMk, hCallV, bin, binI, binS, bnd, shiftI, takeC, foldO, mx2, mn2, isTupL, setsA, fillA, List.getElem?_cons_zero, List.getElem?_cons_succ, List.getElem?_nil, List.length_cons, List.length_nil, shareL, share1L, cellsL, leafL, puLL, puLN, List.all_cons, List.all_nil, Bool.and_true, Bool.true_and, Bool.and_false, Bool.false_and, Bool.or_true, Bool.true_or, Bool.or_false, Bool.false_or, Bool.and_self, Bool.not_true, Bool.not_false, if_true, if_false, List.map_cons, List.map_nil, List.cons_append, List.nil_append, List.append_nil, leave, resOf, res1, resL, Hp.cut_self, ite_self, reduceIte, reduceCtorEq, Nat.reduceAdd, Nat.reduceMul, Nat.reduceEqDiff, Nat.reduceLT, Nat.reduceLeDiff, Nat.reduceSub, List.drop_zero, List.drop_succ_cons, List.take_zero, List.take_succ_cons, Int.toNat_zero, decide_true, decide_false, decide_eq_true_eq, decide_eq_false_iff_not, Bool.false_eq_true, and_true, true_and, and_self, and_false, false_and, Option.some.injEq, Nat.add_zero, Nat.zero_add, beq_self_eq_true, ne_eq, not_true_eq_false, not_false_eq_true, noOwnL, cellOkL, tgL, Hp.cut_set_self, List.set_cons_zero, List.set_cons_succ, List.length_set]
  simp only [ofAV, Prod.mk.injEq, true_and]
  refine cut_objs (by simp only [Hp.nx_new, Hp.nx_set]; omega) fun i hi => ?_
  have h0 : i ≠ h.nx := by omega
  simp only [m_new', m_set', h0, if_false]
abbrev z3 : List AV := [.int .i64 0, .int .i64 0, .int .i64 0]
theorem Of_ev (e : Er) (h : Hp) : evT E f_fault_Of [e.av] h = some (ofAV (some e), h) := by
  refine evT_fn tame e_fault_Of rfl ?_
  have t1 := As_ev Tgt.cls e ((((h.new z3).new z3).set (h.nx + 1) [.int .i64 1, .int .i64 0, .int .i64 0]).new [.int .i64 0]) (h.nx + 1 + 1) (.int .i64 0) (by simp only [m_new', m_set', Hp.nx_new, Hp.nx_set, if_true])
  have t2 := As_ev Tgt.sec e (((((((h.new z3).new z3).set (h.nx + 1) [.int .i64 1, .int .i64 0, .int .i64 0]).new [.int .i64 0]).set (h.nx + 1 + 1) [.int .i64 e.cl]).set (h.nx + 1) [.int .i64 e.cl, .int .i64 0, .int .i64 0]).new [.nilp]) (h.nx + 1 + 1 + 1) .nilp (by simp only [m_new', m_set', Hp.nx_new, Hp.nx_set, if_true])
  rw [hit_cls] at t1
  have ne1 : ¬ (h.nx + 1 = h.nx + 1 + 1) := by omega
  have ne2 : ¬ (h.nx + 1 = h.nx) := by omega
  have ne3 : ¬ (h.nx + 1 = h.nx + 1 + 1 + 1) := by omega
  have ne4 : ¬ (h.nx + 1 = h.nx + 1 + 1 + 1 + 1) := by omega
  have ne5 : ¬ (h.nx = h.nx + 1) := by omega
  have ne6 : ¬ (h.nx = h.nx + 1 + 1) := by omega
  have ne7 : ¬ (h.nx = h.nx + 1 + 1 + 1) := by omega
  have ne8 : ¬ (h.nx = h.nx + 1 + 1 + 1 + 1) := by omega
  rcases hit_sec e with ⟨g1, g2⟩ | ⟨e1, g1⟩
  · have t3 := As_ev Tgt.plc e ((((((((h.new z3).new z3).set (h.nx + 1) [.int .i64 1, .int .i64 0, .int .i64 0]).new [.int .i64 0]).set (h.nx + 1 + 1) [.int .i64 e.cl]).set (h.nx + 1) [.int .i64 e.cl, .int .i64 0, .int .i64 0]).new [.nilp]).new [.nilp]) (h.nx + 1 + 1 + 1 + 1) .nilp (by simp only [m_new', m_set', Hp.nx_new, Hp.nx_set, if_true])
    rw [g1] at t2
    rcases hit_plc e with ⟨k1, k2⟩ | ⟨e2, k1⟩
    · rw [k1] at t3
      rw [e.av_eq] at t1 t2 t3
      simp only [a_fault_Of, e.av_eq, Er.av_pu, Er.av_share, Er.av_share1, Er.av_leaf, m_new', m_set', Hp.nx_new, Hp.nx_set, Option.map_some, List.set_cons_zero, List.set_cons_succ, Er.pay_pu, Er.pay_share, Er.pay_share1, Er.pay_leaf, t1, t2, t3, g1, k1, hitR, ne1, ne2, ne3, ne4, ne5, ne6, ne7, ne8, post_n, post_e, post_r, post_seq, post_block, post_cond, post_skip, post_exit, post_ret, post_ops, inBlk_e, inBlk_r, done, doneQ_r, doneP, donePQ_r, xcons, xnil, step, stepGo, rds, rd, updO, upd, init, semH, sem, semT, sMv, sPick, sNil, sAgg, sLit, sBin, neg, sBeq, sEqs, sNilI, sNilP, sNilF, sNot, sNeg, sXor, sConv, sConvS, sB2s, sMkI, sMkF, sRep, sSlS, sSlL, sFa, sFld, sIxA, sIxS, sIxG, sAsrt, sExt, sLdI, sLenS, sLenL, sMx, sMn, sApp, sAppS, sBox, sFrs, sIni, sLit0, sIxP, sS2b, sCallV, hLd, hSt, hBox, hNew, hMk, hCallV, bin, binI, binS, bnd, shiftI, takeC, foldO, mx2, mn2, isTupL, setsA, fillA, List.getElem?_cons_zero, List.getElem?_cons_succ, List.getElem?_nil, List.length_cons, List.length_nil, shareL, share1L, cellsL, leafL, puLL, puLN, List.all_cons, List.all_nil, Bool.and_true, Bool.true_and, Bool.and_false, Bool.false_and, Bool.or_true, Bool.true_or, Bool.or_false, Bool.false_or, Bool.and_self, Bool.not_true, Bool.not_false, if_true, if_false, List.map_cons, List.map_nil, List.cons_append, List.nil_append, List.append_nil, leave, resOf, res1, resL, Hp.cut_self, ite_self, reduceIte, reduceCtorEq, Nat.reduceAdd, Nat.reduceMul, Nat.reduceEqDiff, Nat.reduceLT, Nat.reduceLeDiff, Nat.reduceSub, List.drop_zero, List.drop_succ_cons, List.take_zero, List.take_succ_cons, Int.toNat_zero, decide_true, decide_false, decide_eq_true_eq, decide_eq_false_iff_not, Bool.false_eq_true, and_true, true_and, and_self, and_false, false_and, Option.some.injEq, Nat.add_zero, Nat.zero_add, beq_self_eq_true, ne_eq, not_true_eq_false, not_false_eq_true, noOwnL, cellOkL, tgL, Hp.cut_set_self, List.set_cons_zero, List.set_cons_succ, List.length_set]
      simp only [ofAV, g2, k2, true_and, Prod.mk.injEq, true_and]
      refine cut_objs (by simp only [Hp.nx_new, Hp.nx_set]; omega) fun i hi => ?_
      have h0 : i ≠ h.nx := by omega
      have h1 : i ≠ h.nx + 1 := by omega
      have h2 : i ≠ h.nx + 1 + 1 := by omega
      have h3 : i ≠ h.nx + 1 + 1 + 1 := by omega
      have h4 : i ≠ h.nx + 1 + 1 + 1 + 1 := by omega
      simp only [m_new', m_set', Hp.nx_new, Hp.nx_set, h0, h1, h2, h3, h4, if_false]
    · rw [k1] at t3
      rw [e.av_eq] at t1 t2 t3
      simp only [a_fault_Of, e.av_eq, Er.av_pu, Er.av_share, Er.av_share1, Er.av_leaf, m_new', m_set', Hp.nx_new, Hp.nx_set, Option.map_some, List.set_cons_zero, List.set_cons_succ, Er.pay_pu, Er.pay_share, Er.pay_share1, Er.pay_leaf, t1, t2, t3, g1, k1, hitR, ne1, ne2, ne3, ne4, ne5, ne6, ne7, ne8, post_n, post_e, post_r, post_seq, post_block, post_cond, post_skip, post_exit, post_ret, post_ops, inBlk_e, inBlk_r, done, doneQ_r, doneP, donePQ_r, xcons, xnil, step, stepGo, rds, rd, updO, upd, init, semH, sem, semT, sMv, sPick, sNil, sAgg, sLit, sBin, neg, sBeq, sEqs, sNilI, sNilP, sNilF, sNot, sNeg, sXor, sConv, sConvS, sB2s, sMkI, sMkF, sRep, sSlS, sSlL, sFa, sFld, sIxA, sIxS, sIxG, sAsrt, sExt, sLdI, sLenS, sLenL, sMx, sMn, sApp, sAppS, sBox, sFrs, sIni, sLit0, sIxP, sS2b, sCallV, hLd, hSt, hBox, hNew, hMk, hCallV, bin, binI, binS, bnd, shiftI, takeC, foldO, mx2, mn2, isTupL, setsA, fillA, List.getElem?_cons_zero, List.getElem?_cons_succ, List.getElem?_nil, List.length_cons, List.length_nil, shareL, share1L, cellsL, leafL, puLL, puLN, List.all_cons, List.all_nil, Bool.and_true, Bool.true_and, Bool.and_false, Bool.false_and, Bool.or_true, Bool.true_or, Bool.or_false, Bool.false_or, Bool.and_self, Bool.not_true, Bool.not_false, if_true, if_false, List.map_cons, List.map_nil, List.cons_append, List.nil_append, List.append_nil, leave, resOf, res1, resL, Hp.cut_self, ite_self, reduceIte, reduceCtorEq, Nat.reduceAdd, Nat.reduceMul, Nat.reduceEqDiff, Nat.reduceLT, Nat.reduceLeDiff, Nat.reduceSub, List.drop_zero, List.drop_succ_cons, List.take_zero, List.take_succ_cons, Int.toNat_zero, decide_true, decide_false, decide_eq_true_eq, decide_eq_false_iff_not, Bool.false_eq_true, and_true, true_and, and_self, and_false, false_and, Option.some.injEq, Nat.add_zero, Nat.zero_add, beq_self_eq_true, ne_eq, not_true_eq_false, not_false_eq_true, noOwnL, cellOkL, tgL, Hp.cut_set_self, List.set_cons_zero, List.set_cons_succ, List.length_set]
      simp only [ofAV, g2, true_and, Prod.mk.injEq, true_and]
      refine cut_objs (by simp only [Hp.nx_new, Hp.nx_set]; omega) fun i hi => ?_
      have h0 : i ≠ h.nx := by omega
      have h1 : i ≠ h.nx + 1 := by omega
      have h2 : i ≠ h.nx + 1 + 1 := by omega
      have h3 : i ≠ h.nx + 1 + 1 + 1 := by omega
      have h4 : i ≠ h.nx + 1 + 1 + 1 + 1 := by omega
      simp only [m_new', m_set', Hp.nx_new, Hp.nx_set, h0, h1, h2, h3, h4, if_false]
  · have t3 := As_ev Tgt.plc e ((((((((((h.new z3).new z3).set (h.nx + 1) [.int .i64 1, .int .i64 0, .int .i64 0]).new [.int .i64 0]).set (h.nx + 1 + 1) [.int .i64 e.cl]).set (h.nx + 1) [.int .i64 e.cl, .int .i64 0, .int .i64 0]).new [.nilp]).set (h.nx + 1 + 1 + 1) [.imm [.int .i64 e.fs, e1.av] 0]).set (h.nx + 1) [.int .i64 e.cl, .int .i64 e.fs, .int .i64 0]).new [.nilp]) (h.nx + 1 + 1 + 1 + 1) .nilp (by simp only [m_new', m_set', Hp.nx_new, Hp.nx_set, if_true])
    rw [g1] at t2
    rcases hit_plc e with ⟨k1, k2⟩ | ⟨e2, k1⟩
    · rw [k1] at t3
      rw [e.av_eq] at t1 t2 t3
      simp only [a_fault_Of, e.av_eq, Er.av_pu, Er.av_share, Er.av_share1, Er.av_leaf, m_new', m_set', Hp.nx_new, Hp.nx_set, Option.map_some, List.set_cons_zero, List.set_cons_succ, Er.pay_pu, Er.pay_share, Er.pay_share1, Er.pay_leaf, t1, t2, t3, g1, k1, hitR, ne1, ne2, ne3, ne4, ne5, ne6, ne7, ne8, post_n, post_e, post_r, post_seq, post_block, post_cond, post_skip, post_exit, post_ret, post_ops, inBlk_e, inBlk_r, done, doneQ_r, doneP, donePQ_r, xcons, xnil, step, stepGo, rds, rd, updO, upd, init, semH, sem, semT, sMv, sPick, sNil, sAgg, sLit, sBin, neg, sBeq, sEqs, sNilI, sNilP, sNilF, sNot, sNeg, sXor, sConv, sConvS, sB2s, sMkI, sMkF, sRep, sSlS, sSlL, sFa, sFld, sIxA, sIxS, sIxG, sAsrt, sExt, sLdI, sLenS, sLenL, sMx, sMn, sApp, sAppS, sBox, sFrs, sIni, sLit0, sIxP, sS2b, sCallV, hLd, hSt, hBox, hNew, hMk, hCallV, bin, binI, binS, bnd, shiftI, takeC, foldO, mx2, mn2, isTupL, setsA, fillA, List.getElem?_cons_zero, List.getElem?_cons_succ, List.getElem?_nil, List.length_cons, List.length_nil, shareL, share1L, cellsL, leafL, puLL, puLN, List.all_cons, List.all_nil, Bool.and_true, Bool.true_and, Bool.and_false, Bool.false_and, Bool.or_true, Bool.true_or, Bool.or_false, Bool.false_or, Bool.and_self, Bool.not_true, Bool.not_false, if_true, if_false, List.map_cons, List.map_nil, List.cons_append, List.nil_append, List.append_nil, leave, resOf, res1, resL, Hp.cut_self, ite_self, reduceIte, reduceCtorEq, Nat.reduceAdd, Nat.reduceMul, Nat.reduceEqDiff, Nat.reduceLT, Nat.reduceLeDiff, Nat.reduceSub, List.drop_zero, List.drop_succ_cons, List.take_zero, List.take_succ_cons, Int.toNat_zero, decide_true, decide_false, decide_eq_true_eq, decide_eq_false_iff_not, Bool.false_eq_true, and_true, true_and, and_self, and_false, false_and, Option.some.injEq, Nat.add_zero, Nat.zero_add, beq_self_eq_true, ne_eq, not_true_eq_false, not_false_eq_true, noOwnL, cellOkL, tgL, Hp.cut_set_self, List.set_cons_zero, List.set_cons_succ, List.length_set]
      simp only [ofAV, k2, true_and, Prod.mk.injEq, true_and]
      refine cut_objs (by simp only [Hp.nx_new, Hp.nx_set]; omega) fun i hi => ?_
      have h0 : i ≠ h.nx := by omega
      have h1 : i ≠ h.nx + 1 := by omega
      have h2 : i ≠ h.nx + 1 + 1 := by omega
      have h3 : i ≠ h.nx + 1 + 1 + 1 := by omega
      have h4 : i ≠ h.nx + 1 + 1 + 1 + 1 := by omega
      simp only [m_new', m_set', Hp.nx_new, Hp.nx_set, h0, h1, h2, h3, h4, if_false]
    · rw [k1] at t3
      rw [e.av_eq] at t1 t2 t3
      simp only [a_fault_Of, e.av_eq, Er.av_pu, Er.av_share, Er.av_share1, Er.av_leaf, m_new', m_set', Hp.nx_new, Hp.nx_set, Option.map_some, List.set_cons_zero, List.set_cons_succ, Er.pay_pu, Er.pay_share, Er.pay_share1, Er.pay_leaf, t1, t2, t3, g1, k1, hitR, ne1, ne2, ne3, ne4, ne5, ne6, ne7, ne8, post_n, post_e, post_r, post_seq, post_block, post_cond, post_skip, post_exit, post_ret, post_ops, inBlk_e, inBlk_r, done, doneQ_r, doneP, donePQ_r, xcons, xnil, step, stepGo, rds, rd, updO, upd, init, semH, sem, semT, sMv, sPick, sNil, sAgg, sLit, sBin, neg, sBeq, sEqs, sNilI, sNilP, sNilF, sNot, sNeg, sXor, sConv, sConvS, sB2s, sMkI, sMkF, sRep, sSlS, sSlL, sFa, sFld, sIxA, sIxS, sIxG, sAsrt, sExt, sLdI, sLenS, sLenL, sMx, sMn, sApp, sAppS, sBox, sFrs, sIni, sLit0, sIxP, sS2b, sCallV, hLd, hSt, hBox, hNew, hMk, hCallV, bin, binI, binS, bnd, shiftI, takeC, foldO, mx2, mn2, isTupL, setsA, fillA, List.getElem?_cons_zero, List.getElem?_cons_succ, List.getElem?_nil, List.length_cons, List.length_nil, shareL, share1L, cellsL, leafL, puLL, puLN, List.all_cons, List.all_nil, Bool.and_true, Bool.true_and, Bool.and_false, Bool.false_and, Bool.or_true, Bool.true_or, Bool.or_false, Bool.false_or, Bool.and_self, Bool.not_true, Bool.not_false, if_true, if_false, List.map_cons, List.map_nil, List.cons_append, List.nil_append, List.append_nil, leave, resOf, res1, resL, Hp.cut_self, ite_self, reduceIte, reduceCtorEq, Nat.reduceAdd, Nat.reduceMul, Nat.reduceEqDiff, Nat.reduceLT, Nat.reduceLeDiff, Nat.reduceSub, List.drop_zero, List.drop_succ_cons, List.take_zero, List.take_succ_cons, Int.toNat_zero, decide_true, decide_false, decide_eq_true_eq, decide_eq_false_iff_not, Bool.false_eq_true, and_true, true_and, and_self, and_false, false_and, Option.some.injEq, Nat.add_zero, Nat.zero_add, beq_self_eq_true, ne_eq, not_true_eq_false, not_false_eq_true, noOwnL, cellOkL, tgL, Hp.cut_set_self, List.set_cons_zero, List.set_cons_succ, List.length_set]
      simp only [ofAV, true_and, Prod.mk.injEq, true_and]
      refine cut_objs (by simp only [Hp.nx_new, Hp.nx_set]; omega) fun i hi => ?_
      have h0 : i ≠ h.nx := by omega
      have h1 : i ≠ h.nx + 1 := by omega
      have h2 : i ≠ h.nx + 1 + 1 := by omega
      have h3 : i ≠ h.nx + 1 + 1 + 1 := by omega
      have h4 : i ≠ h.nx + 1 + 1 + 1 + 1 := by omega
      simp only [m_new', m_set', Hp.nx_new, Hp.nx_set, h0, h1, h2, h3, h4, if_false]
end Go.Vm.S
