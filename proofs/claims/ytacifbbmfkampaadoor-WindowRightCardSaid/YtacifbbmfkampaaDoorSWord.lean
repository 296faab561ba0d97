/- window.Word: whose each tick is, by a range over slices.Backward. -/
import Derived.Test.YtacifbbmfkampaaDoorG
import Derived.Test.YtacifbbmfkampaaDoorVmOf
namespace Go.Vm.S
open Go Go.Vm
set_option linter.unusedVariables false
set_option linter.unusedSimpArgs false
set_option maxRecDepth 20000
abbrev Win := Int × Int × Int
def winOf : AV → Option Win
  | .agg [.int .i64 a, .int .i64 b, .int .i64 c] => some (a, b, c)
  | _ => none
def wv (w : Win) : AV := .agg [.int .i64 w.1, .int .i64 w.2.1, .int .i64 w.2.2]
def wfrom (w : Win) : Nat := (if 0 > w.2.1 then 0 else w.2.1).toNat
def wto (n : Nat) (w : Win) : Int := if (n : Int) < IntKind.i64.wrap (w.2.1 + w.2.2) then n else IntKind.i64.wrap (w.2.1 + w.2.2)
def fillI (l : List Int) (a b : Nat) (v : Int) : List Int := l.mapIdx fun t x => if a ≤ t ∧ t < b then v else x
def wput (w : Win) (l : List Int) : List Int := fillI l (wfrom w) (wto l.length w).toNat w.1
def wordL (n : Nat) (ws : List Win) : List Int := ws.foldr wput (List.replicate n (-1))
def iv (x : Int) : AV := .int .i64 x
def pWord (call : FuncId → List AV → Option AV) : List AV → Option AV
  | [.agg [.int .i64 _, .int .i64 fr, .sl false 3 l, .sl false 3 _]] =>
    (match call f_slices_Backward___api_Window_api_Window_ [.sl false 3 l] with
    | some (.fn f [.imm [.sl false 3 l'] 0]) => if f = f_slices_Backward___api_Window_api_Window__1 ∧ fr ≤ 1000000 ∧ l'.length ≤ 1000000 then (match l'.mapM winOf with | some ws => some (.sl false 1 ((wordL fr.toNat ws).map iv)) | none => none) else none
    | _ => none)
  | _ => none
theorem word_uses {c : FuncId → List AV → Option AV} {xs : List AV} {r : AV} (h : pWord c xs = some r) : ∃ ys q, c f_slices_Backward___api_Window_api_Window_ ys = some q ∧ ∀ c' : FuncId → List AV → Option AV, c' f_slices_Backward___api_Window_api_Window_ ys = some q → pWord c' xs = some r := by
  have h' := h
  unfold pWord at h'
  split at h' <;> try (simp at h'; done)
  rename_i a fr l nd
  split at h' <;> try (simp at h'; done)
  rename_i f l' hq
  refine ⟨_, _, hq, fun c' hc' => ?_⟩
  unfold pWord at h ⊢
  simp only [hq] at h
  simp only [hc']
  exact h
theorem tame_word : TameP pWord :=
  ⟨fun c c' h xs r hr => by obtain ⟨ys, q, h1, h2⟩ := word_uses hr; exact h2 c' (h _ _ _ h1),
   fun c l _ hl xs r hr => by obtain ⟨ys, q, h1, h2⟩ := word_uses hr; obtain ⟨k, hk⟩ := hl _ _ _ h1; exact ⟨k, h2 _ hk⟩⟩

theorem winOf_some {l : List AV} {ws : List Win} (h : l.mapM winOf = some ws) : l = ws.map wv := by
  induction l generalizing ws with
  | nil => simp at h; subst h; rfl
  | cons x l ih =>
    simp only [List.mapM_cons, Option.bind_eq_bind, Option.bind_eq_some_iff] at h
    obtain ⟨w, hw, ws', hws, h⟩ := h
    simp at h; subst h
    rw [List.map_cons, ← ih hws]
    congr 1
    unfold winOf at hw
    split at hw <;> simp at hw
    subst hw; rfl

def hS (l : List Int) : Hp := Hp.e.new (l.map iv)
theorem hS_m (l : List Int) : (hS l).m 0 = some (l.map iv) := rfl
theorem hS_set (l l' : List Int) : (hS l).set 0 (l'.map iv) = hS l' := Hp.same rfl fun i => by
  simp only [Hp.set, hS, Hp.new, Hp.e]
  split
  · rename_i h; subst h; rfl
  · rename_i h
    show (if i = 0 then some (l.map iv) else none) = if i = 0 then some (l'.map iv) else none
    rw [if_neg h, if_neg h]
theorem hSt_hS {l : List Int} {i : Nat} (v : Int) (hi : i < l.length) : hSt 1 (hS l) [.ref 0 i, .int .i64 v] = some (.tup [], hS (l.set i v)) := by
  have h1 : setsA (l.map iv) i [iv v] = (l.set i v).map iv := by simp [setsA, List.map_set]
  simp only [hSt, hS_m]
  rw [if_pos ⟨rfl, by simp; omega, rfl⟩]
  have : (AV.int IntKind.i64 v).cells.map AV.share1 = [iv v] := rfl
  rw [this, h1, hS_set]
theorem hMk_hS {n : Nat} (hn : n ≤ 1000000) : hMk 1 8 (.int .i64 0) Hp.e [.int .i64 n] = some (.msl 0 0 1 n, hS (List.replicate n 0)) := by
  simp only [hMk]
  rw [if_pos ⟨by omega, by omega, by omega⟩]
  have : (List.replicate (n : Int).toNat (AV.int IntKind.i64 0).cells).flatten = (List.replicate n (0 : Int)).map iv := by
    simp [AV.cells, iv]
  rw [this]; rfl

theorem fill_len (l : List Int) (a b : Nat) (v : Int) : (fillI l a b v).length = l.length := by simp [fillI]
theorem fill_none (l : List Int) {a b : Nat} (h : b ≤ a) (v : Int) : fillI l a b v = l := by
  apply List.ext_getElem?; intro t
  simp only [fillI, List.getElem?_mapIdx]
  cases l[t]? with
  | none => rfl
  | some x => simp; omega
theorem fill_set (l : List Int) {a b : Nat} (h : a ≤ b) (v : Int) : (fillI l a b v).set b v = fillI l a (b + 1) v := by
  apply List.ext_getElem?; intro t
  simp only [fillI, List.getElem?_set, List.getElem?_mapIdx, List.length_mapIdx]
  by_cases ht : b = t
  · subst ht
    by_cases hl : b < l.length
    · simp [hl, h]
    · simp [hl]
  · rw [if_neg ht]
    cases l[t]? with
    | none => rfl
    | some x =>
      simp only [Option.map_some, Option.some.injEq]
      congr 1
      simp only [eq_iff_iff]
      omega
theorem wput_len (w : Win) (l : List Int) : (wput w l).length = l.length := fill_len _ _ _ _
theorem word_len (n : Nat) (ws : List Win) : (wordL n ws).length = n := by
  induction ws with
  | nil => simp [wordL]
  | cons w ws ih => simp only [wordL, List.foldr_cons] at ih ⊢; rw [wput_len]; exact ih
theorem of_post {I : Env × Hp → Prop} {r : Option (AExit × Env × Hp)} (h : Post I (fun _ => False) r) : ∃ s, r = some (.normal, s) ∧ I s := by
  match r, h with
  | none, h => exact h.elim
  | some (.normal, s), h => exact ⟨s, rfl, h⟩
  | some (.exit _, s), h => exact h.elim
  | some (.ret, s), h => exact h.elim

section
variable [Glob] {call : CallH}
theorem word_pre {c : FuncId → List AV → Option AV} {a fr : Int} {l l' nd : List AV} {f : FuncId} (hc : c f_slices_Backward___api_Window_api_Window_ [.sl false 3 l] = some (.fn f [.imm [.sl false 3 l'] 0])) (hfr : fr ≤ 1000000) :
    ∃ e1, evX (callP c) (seqs r_window_Word.pre) (init [.agg [.int .i64 a, .int .i64 fr, .sl false 3 l, .sl false 3 nd]], Hp.e) = some (.normal, (e1, hS (List.replicate fr.toNat (-1)))) ∧ e1 25 = .fn f [.imm [.sl false 3 l'] 0] ∧ e1 3 = .imm [.msl 0 0 1 fr.toNat] 0 := by
  obtain ⟨n, hn⟩ : ∃ n : Nat, fr.toNat = n := ⟨_, rfl⟩
  rw [hn]
  have hmx : (if (0 : Int) > fr then (0 : Int) else fr) = (n : Int) := by split <;> omega
  have hmk := hMk_hS (n := n) (by omega)
  have hcp : (callP c).pure f_slices_Backward___api_Window_api_Window_ [.sl false 3 l] = some (.fn f [.imm [.sl false 3 l'] 0]) := by
    have hx : isX f_slices_Backward___api_Window_api_Window_ = false := rfl
    simp only [CallH.pure, callP, hx, List.all_cons, List.all_nil, AV.pu, AV.pu.puL, Bool.and_self, if_true, Bool.false_eq_true, if_false, hc]
  have key : Post (fun s => s.1 25 = .fn f [.imm [.sl false 3 l'] 0] ∧ s.1 3 = .imm [.msl 0 0 1 n] 0 ∧ s.2 = hS (List.replicate n (-1))) (fun _ => False) (evX (callP c) (seqs r_window_Word.pre) (init [.agg [.int .i64 a, .int .i64 fr, .sl false 3 l, .sl false 3 nd]], Hp.e)) := by
    simp only [r_window_Word, seqs, hmx, hmk, post_n, post_e, post_r, post_seq, post_block, post_cond, post_skip, post_exit, post_ret, post_ops, inBlk_e, inBlk_r, done, doneQ_r, doneP, donePQ_r, xcons, xnil, step, stepGo, rds, rd, updO, upd, init, semH, sem, semT, sMv, sPick, sNil, sAgg, sLit, sBin, neg, sBeq, sEqs, sNilI, sNilP, sNilF, sNot, sNeg, sXor, sConv, sConvS, sB2s, sMkI, sMkF, sRep, sSlS, sSlL, sFa, sFld, sIxA, sIxS, sIxG, sAsrt, sExt, sLdI, sLenS, sLenL, sMx, sMn, sApp, sAppS, sBox, sFrs, sIni, sLit0, sIxP, sS2b, sCallV, hLd, hBox, hNew, hCallV, bin, binI, binS, bnd, shiftI, takeC, foldO, mx2, mn2, isTupL, setsA, fillA, List.getElem?_cons_zero, List.getElem?_cons_succ, List.getElem?_nil, List.length_cons, List.length_nil, shareL, share1L, cellsL, leafL, puLL, puLN, List.all_cons, List.all_nil, Bool.and_true, Bool.true_and, Bool.and_false, Bool.false_and, Bool.or_true, Bool.true_or, Bool.or_false, Bool.false_or, Bool.and_self, Bool.not_true, Bool.not_false, if_true, if_false, List.map_cons, List.map_nil, List.cons_append, List.nil_append, List.append_nil, leave, resOf, res1, resL, Hp.cut_self, ite_self, reduceIte, reduceCtorEq, Nat.reduceAdd, Nat.reduceMul, Nat.reduceEqDiff, Nat.reduceLT, Nat.reduceLeDiff, Nat.reduceSub, List.drop_zero, List.drop_succ_cons, List.take_zero, List.take_succ_cons, Int.toNat_zero, decide_true, decide_false, decide_eq_true_eq, decide_eq_false_iff_not, Bool.false_eq_true, and_true, true_and, and_self, and_false, false_and, Option.some.injEq, Nat.add_zero, Nat.zero_add, beq_self_eq_true, ne_eq, not_true_eq_false, not_false_eq_true, noOwnL, cellOkL, tgL, Hp.cut_set_self, List.set_cons_zero, List.set_cons_succ, List.length_set]
    refine post_count (fun i e => e.1 1 = .imm [.int .i64 a, .int .i64 fr, .sl false 3 l, .sl false 3 nd] 0 ∧ e.1 3 = .imm [.msl 0 0 1 n] 0 ∧ e.1 15 = .int .i64 n ∧ e.1 16 = .int .i64 i ∧ e.2 = hS (fillI (List.replicate n 0) 0 i (-1))) n 0 (Nat.zero_le _) ?_ ?_ ?_
    · exact ⟨rfl, rfl, by simp [upd], rfl, by rw [fill_none _ (Nat.le_refl _)]⟩
    · rintro i ⟨e, hh⟩ hi ⟨g0, g1, g2, g3, g4⟩
      simp only at g0 g1 g2 g3 g4
      subst g4
      have k1 : (i : Int) < n := by omega
      have k3 : IntKind.i64.wrap ((i : Int) + 1) = ((i + 1 : Nat) : Int) := by rw [wI64 (by omega) (by omega)]; omega
      have k5 : (0 : Int) ≤ (i : Int) := by omega
      have k6 := hSt_hS (l := fillI (List.replicate n 0) 0 i (-1)) (i := i) (-1) (by rw [fill_len]; simp; omega)
      rw [fill_set _ (Nat.zero_le _)] at k6
      simp only [b0_rwindow_Word, g0, g1, g2, g3, k1, k3, k5, k6, Int.toNat_natCast, Nat.mul_one, post_n, post_e, post_r, post_seq, post_block, post_cond, post_skip, post_exit, post_ret, post_ops, inBlk_e, inBlk_r, done, doneQ_r, doneP, donePQ_r, xcons, xnil, step, stepGo, rds, rd, updO, upd, init, semH, sem, semT, sMv, sPick, sNil, sAgg, sLit, sBin, neg, sBeq, sEqs, sNilI, sNilP, sNilF, sNot, sNeg, sXor, sConv, sConvS, sB2s, sMkI, sMkF, sRep, sSlS, sSlL, sFa, sFld, sIxA, sIxS, sIxG, sAsrt, sExt, sLdI, sLenS, sLenL, sMx, sMn, sApp, sAppS, sBox, sFrs, sIni, sLit0, sIxP, sS2b, sCallV, hLd, hBox, hNew, hCallV, bin, binI, binS, bnd, shiftI, takeC, foldO, mx2, mn2, isTupL, setsA, fillA, List.getElem?_cons_zero, List.getElem?_cons_succ, List.getElem?_nil, List.length_cons, List.length_nil, shareL, share1L, cellsL, leafL, puLL, puLN, List.all_cons, List.all_nil, Bool.and_true, Bool.true_and, Bool.and_false, Bool.false_and, Bool.or_true, Bool.true_or, Bool.or_false, Bool.false_or, Bool.and_self, Bool.not_true, Bool.not_false, if_true, if_false, List.map_cons, List.map_nil, List.cons_append, List.nil_append, List.append_nil, leave, resOf, res1, resL, Hp.cut_self, ite_self, reduceIte, reduceCtorEq, Nat.reduceAdd, Nat.reduceMul, Nat.reduceEqDiff, Nat.reduceLT, Nat.reduceLeDiff, Nat.reduceSub, List.drop_zero, List.drop_succ_cons, List.take_zero, List.take_succ_cons, Int.toNat_zero, decide_true, decide_false, decide_eq_true_eq, decide_eq_false_iff_not, Bool.false_eq_true, and_true, true_and, and_self, and_false, false_and, Option.some.injEq, Nat.add_zero, Nat.zero_add, beq_self_eq_true, ne_eq, not_true_eq_false, not_false_eq_true, noOwnL, cellOkL, tgL, Hp.cut_set_self, List.set_cons_zero, List.set_cons_succ, List.length_set]
    · rintro ⟨e, hh⟩ ⟨g0, g1, g2, g3, g4⟩
      simp only at g0 g1 g2 g3 g4
      subst g4
      have k1 : ¬ ((n : Int) < n) := by omega
      have hf : fillI (List.replicate n 0) 0 n (-1) = List.replicate n (-1) := by
        apply List.ext_getElem?; intro t
        simp only [fillI, List.getElem?_mapIdx, List.getElem?_replicate]
        by_cases ht : t < n
        · simp [ht]
        · simp [ht]
      simp only [b0_rwindow_Word, g0, g1, g2, g3, k1, hcp, hf, post_n, post_e, post_r, post_seq, post_block, post_cond, post_skip, post_exit, post_ret, post_ops, inBlk_e, inBlk_r, done, doneQ_r, doneP, donePQ_r, xcons, xnil, step, stepGo, rds, rd, updO, upd, init, semH, sem, semT, sMv, sPick, sNil, sAgg, sLit, sBin, neg, sBeq, sEqs, sNilI, sNilP, sNilF, sNot, sNeg, sXor, sConv, sConvS, sB2s, sMkI, sMkF, sRep, sSlS, sSlL, sFa, sFld, sIxA, sIxS, sIxG, sAsrt, sExt, sLdI, sLenS, sLenL, sMx, sMn, sApp, sAppS, sBox, sFrs, sIni, sLit0, sIxP, sS2b, sCallV, hLd, hBox, hNew, hCallV, bin, binI, binS, bnd, shiftI, takeC, foldO, mx2, mn2, isTupL, setsA, fillA, List.getElem?_cons_zero, List.getElem?_cons_succ, List.getElem?_nil, List.length_cons, List.length_nil, shareL, share1L, cellsL, leafL, puLL, puLN, List.all_cons, List.all_nil, Bool.and_true, Bool.true_and, Bool.and_false, Bool.false_and, Bool.or_true, Bool.true_or, Bool.or_false, Bool.false_or, Bool.and_self, Bool.not_true, Bool.not_false, if_true, if_false, List.map_cons, List.map_nil, List.cons_append, List.nil_append, List.append_nil, leave, resOf, res1, resL, Hp.cut_self, ite_self, reduceIte, reduceCtorEq, Nat.reduceAdd, Nat.reduceMul, Nat.reduceEqDiff, Nat.reduceLT, Nat.reduceLeDiff, Nat.reduceSub, List.drop_zero, List.drop_succ_cons, List.take_zero, List.take_succ_cons, Int.toNat_zero, decide_true, decide_false, decide_eq_true_eq, decide_eq_false_iff_not, Bool.false_eq_true, and_true, true_and, and_self, and_false, false_and, Option.some.injEq, Nat.add_zero, Nat.zero_add, beq_self_eq_true, ne_eq, not_true_eq_false, not_false_eq_true, noOwnL, cellOkL, tgL, Hp.cut_set_self, List.set_cons_zero, List.set_cons_succ, List.length_set]
  obtain ⟨⟨e1, h1⟩, h2, h3, h4, h5⟩ := of_post key
  exact ⟨e1, by rw [h2]; simp only at h5; rw [h5], h3, h4⟩

theorem word_round {e1 : Env} {n : Nat} (h3 : e1 3 = .imm [.msl 0 0 1 n] 0) (hn : n ≤ 1000000) (w : Win) (l : List Int) (hl : l.length = n) (i : Int) :
    ∃ e3 e4, evX call r_window_Word.asA (shareE (updL (shareE e1) r_window_Word.ps [.int .i64 i, wv w]), hS l) = some (.normal, (e3, hS l)) ∧ evX call r_window_Word.boA (shareE e3, hS l) = some (.normal, (e4, hS (wput w l))) := by
  obtain ⟨id, off, len⟩ := w
  have g0 : (shareE (updL (shareE e1) r_window_Word.ps [.int .i64 i, wv (id, off, len)])) 3 = .imm [.msl 0 0 1 n] 0 := by
    simp only [shareE, r_window_Word, updL, upd, reduceIte, Nat.reduceEqDiff, h3, post_n, post_e, post_r, post_seq, post_block, post_cond, post_skip, post_exit, post_ret, post_ops, inBlk_e, inBlk_r, done, doneQ_r, doneP, donePQ_r, xcons, xnil, step, stepGo, rds, rd, updO, upd, init, semH, sem, semT, sMv, sPick, sNil, sAgg, sLit, sBin, neg, sBeq, sEqs, sNilI, sNilP, sNilF, sNot, sNeg, sXor, sConv, sConvS, sB2s, sMkI, sMkF, sRep, sSlS, sSlL, sFa, sFld, sIxA, sIxS, sIxG, sAsrt, sExt, sLdI, sLenS, sLenL, sMx, sMn, sApp, sAppS, sBox, sFrs, sIni, sLit0, sIxP, sS2b, sCallV, hLd, hBox, hNew, hCallV, bin, binI, binS, bnd, shiftI, takeC, foldO, mx2, mn2, isTupL, setsA, fillA, List.getElem?_cons_zero, List.getElem?_cons_succ, List.getElem?_nil, List.length_cons, List.length_nil, shareL, share1L, cellsL, leafL, puLL, puLN, List.all_cons, List.all_nil, Bool.and_true, Bool.true_and, Bool.and_false, Bool.false_and, Bool.or_true, Bool.true_or, Bool.or_false, Bool.false_or, Bool.and_self, Bool.not_true, Bool.not_false, if_true, if_false, List.map_cons, List.map_nil, List.cons_append, List.nil_append, List.append_nil, leave, resOf, res1, resL, Hp.cut_self, ite_self, reduceIte, reduceCtorEq, Nat.reduceAdd, Nat.reduceMul, Nat.reduceEqDiff, Nat.reduceLT, Nat.reduceLeDiff, Nat.reduceSub, List.drop_zero, List.drop_succ_cons, List.take_zero, List.take_succ_cons, Int.toNat_zero, decide_true, decide_false, decide_eq_true_eq, decide_eq_false_iff_not, Bool.false_eq_true, and_true, true_and, and_self, and_false, false_and, Option.some.injEq, Nat.add_zero, Nat.zero_add, beq_self_eq_true, ne_eq, not_true_eq_false, not_false_eq_true, noOwnL, cellOkL, tgL, Hp.cut_set_self, List.set_cons_zero, List.set_cons_succ, List.length_set]
  have g27 : (shareE (updL (shareE e1) r_window_Word.ps [.int .i64 i, wv (id, off, len)])) 27 = wv (id, off, len) := by
    simp only [shareE, r_window_Word, updL, upd, reduceIte, Nat.reduceEqDiff, wv, post_n, post_e, post_r, post_seq, post_block, post_cond, post_skip, post_exit, post_ret, post_ops, inBlk_e, inBlk_r, done, doneQ_r, doneP, donePQ_r, xcons, xnil, step, stepGo, rds, rd, updO, upd, init, semH, sem, semT, sMv, sPick, sNil, sAgg, sLit, sBin, neg, sBeq, sEqs, sNilI, sNilP, sNilF, sNot, sNeg, sXor, sConv, sConvS, sB2s, sMkI, sMkF, sRep, sSlS, sSlL, sFa, sFld, sIxA, sIxS, sIxG, sAsrt, sExt, sLdI, sLenS, sLenL, sMx, sMn, sApp, sAppS, sBox, sFrs, sIni, sLit0, sIxP, sS2b, sCallV, hLd, hBox, hNew, hCallV, bin, binI, binS, bnd, shiftI, takeC, foldO, mx2, mn2, isTupL, setsA, fillA, List.getElem?_cons_zero, List.getElem?_cons_succ, List.getElem?_nil, List.length_cons, List.length_nil, shareL, share1L, cellsL, leafL, puLL, puLN, List.all_cons, List.all_nil, Bool.and_true, Bool.true_and, Bool.and_false, Bool.false_and, Bool.or_true, Bool.true_or, Bool.or_false, Bool.false_or, Bool.and_self, Bool.not_true, Bool.not_false, if_true, if_false, List.map_cons, List.map_nil, List.cons_append, List.nil_append, List.append_nil, leave, resOf, res1, resL, Hp.cut_self, ite_self, reduceIte, reduceCtorEq, Nat.reduceAdd, Nat.reduceMul, Nat.reduceEqDiff, Nat.reduceLT, Nat.reduceLeDiff, Nat.reduceSub, List.drop_zero, List.drop_succ_cons, List.take_zero, List.take_succ_cons, Int.toNat_zero, decide_true, decide_false, decide_eq_true_eq, decide_eq_false_iff_not, Bool.false_eq_true, and_true, true_and, and_self, and_false, false_and, Option.some.injEq, Nat.add_zero, Nat.zero_add, beq_self_eq_true, ne_eq, not_true_eq_false, not_false_eq_true, noOwnL, cellOkL, tgL, Hp.cut_set_self, List.set_cons_zero, List.set_cons_succ, List.length_set]
  generalize shareE (updL (shareE e1) r_window_Word.ps [.int .i64 i, wv (id, off, len)]) = e2 at g0 g27 ⊢
  have key1 : Post (fun s => s.1 3 = .imm [.msl 0 0 1 n] 0 ∧ s.1 6 = .imm [.int .i64 id, .int .i64 off, .int .i64 len] 0 ∧ s.2 = hS l) (fun _ => False) (evX call r_window_Word.asA (e2, hS l)) := by
    simp only [r_window_Word, g0, g27, wv, post_n, post_e, post_r, post_seq, post_block, post_cond, post_skip, post_exit, post_ret, post_ops, inBlk_e, inBlk_r, done, doneQ_r, doneP, donePQ_r, xcons, xnil, step, stepGo, rds, rd, updO, upd, init, semH, sem, semT, sMv, sPick, sNil, sAgg, sLit, sBin, neg, sBeq, sEqs, sNilI, sNilP, sNilF, sNot, sNeg, sXor, sConv, sConvS, sB2s, sMkI, sMkF, sRep, sSlS, sSlL, sFa, sFld, sIxA, sIxS, sIxG, sAsrt, sExt, sLdI, sLenS, sLenL, sMx, sMn, sApp, sAppS, sBox, sFrs, sIni, sLit0, sIxP, sS2b, sCallV, hLd, hBox, hNew, hCallV, bin, binI, binS, bnd, shiftI, takeC, foldO, mx2, mn2, isTupL, setsA, fillA, List.getElem?_cons_zero, List.getElem?_cons_succ, List.getElem?_nil, List.length_cons, List.length_nil, shareL, share1L, cellsL, leafL, puLL, puLN, List.all_cons, List.all_nil, Bool.and_true, Bool.true_and, Bool.and_false, Bool.false_and, Bool.or_true, Bool.true_or, Bool.or_false, Bool.false_or, Bool.and_self, Bool.not_true, Bool.not_false, if_true, if_false, List.map_cons, List.map_nil, List.cons_append, List.nil_append, List.append_nil, leave, resOf, res1, resL, Hp.cut_self, ite_self, reduceIte, reduceCtorEq, Nat.reduceAdd, Nat.reduceMul, Nat.reduceEqDiff, Nat.reduceLT, Nat.reduceLeDiff, Nat.reduceSub, List.drop_zero, List.drop_succ_cons, List.take_zero, List.take_succ_cons, Int.toNat_zero, decide_true, decide_false, decide_eq_true_eq, decide_eq_false_iff_not, Bool.false_eq_true, and_true, true_and, and_self, and_false, false_and, Option.some.injEq, Nat.add_zero, Nat.zero_add, beq_self_eq_true, ne_eq, not_true_eq_false, not_false_eq_true, noOwnL, cellOkL, tgL, Hp.cut_set_self, List.set_cons_zero, List.set_cons_succ, List.length_set]
  obtain ⟨⟨e3, hh⟩, q1, q2, q3, q4⟩ := of_post key1
  simp only at q2 q3 q4
  subst q4
  refine ⟨e3, ?_⟩
  have p3 : shareE e3 3 = .imm [.msl 0 0 1 n] 0 := by simp only [shareE, q2, post_n, post_e, post_r, post_seq, post_block, post_cond, post_skip, post_exit, post_ret, post_ops, inBlk_e, inBlk_r, done, doneQ_r, doneP, donePQ_r, xcons, xnil, step, stepGo, rds, rd, updO, upd, init, semH, sem, semT, sMv, sPick, sNil, sAgg, sLit, sBin, neg, sBeq, sEqs, sNilI, sNilP, sNilF, sNot, sNeg, sXor, sConv, sConvS, sB2s, sMkI, sMkF, sRep, sSlS, sSlL, sFa, sFld, sIxA, sIxS, sIxG, sAsrt, sExt, sLdI, sLenS, sLenL, sMx, sMn, sApp, sAppS, sBox, sFrs, sIni, sLit0, sIxP, sS2b, sCallV, hLd, hBox, hNew, hCallV, bin, binI, binS, bnd, shiftI, takeC, foldO, mx2, mn2, isTupL, setsA, fillA, List.getElem?_cons_zero, List.getElem?_cons_succ, List.getElem?_nil, List.length_cons, List.length_nil, shareL, share1L, cellsL, leafL, puLL, puLN, List.all_cons, List.all_nil, Bool.and_true, Bool.true_and, Bool.and_false, Bool.false_and, Bool.or_true, Bool.true_or, Bool.or_false, Bool.false_or, Bool.and_self, Bool.not_true, Bool.not_false, if_true, if_false, List.map_cons, List.map_nil, List.cons_append, List.nil_append, List.append_nil, leave, resOf, res1, resL, Hp.cut_self, ite_self, reduceIte, reduceCtorEq, Nat.reduceAdd, Nat.reduceMul, Nat.reduceEqDiff, Nat.reduceLT, Nat.reduceLeDiff, Nat.reduceSub, List.drop_zero, List.drop_succ_cons, List.take_zero, List.take_succ_cons, Int.toNat_zero, decide_true, decide_false, decide_eq_true_eq, decide_eq_false_iff_not, Bool.false_eq_true, and_true, true_and, and_self, and_false, false_and, Option.some.injEq, Nat.add_zero, Nat.zero_add, beq_self_eq_true, ne_eq, not_true_eq_false, not_false_eq_true, noOwnL, cellOkL, tgL, Hp.cut_set_self, List.set_cons_zero, List.set_cons_succ, List.length_set]
  have p6 : shareE e3 6 = .imm [.int .i64 id, .int .i64 off, .int .i64 len] 0 := by simp only [shareE, q3, post_n, post_e, post_r, post_seq, post_block, post_cond, post_skip, post_exit, post_ret, post_ops, inBlk_e, inBlk_r, done, doneQ_r, doneP, donePQ_r, xcons, xnil, step, stepGo, rds, rd, updO, upd, init, semH, sem, semT, sMv, sPick, sNil, sAgg, sLit, sBin, neg, sBeq, sEqs, sNilI, sNilP, sNilF, sNot, sNeg, sXor, sConv, sConvS, sB2s, sMkI, sMkF, sRep, sSlS, sSlL, sFa, sFld, sIxA, sIxS, sIxG, sAsrt, sExt, sLdI, sLenS, sLenL, sMx, sMn, sApp, sAppS, sBox, sFrs, sIni, sLit0, sIxP, sS2b, sCallV, hLd, hBox, hNew, hCallV, bin, binI, binS, bnd, shiftI, takeC, foldO, mx2, mn2, isTupL, setsA, fillA, List.getElem?_cons_zero, List.getElem?_cons_succ, List.getElem?_nil, List.length_cons, List.length_nil, shareL, share1L, cellsL, leafL, puLL, puLN, List.all_cons, List.all_nil, Bool.and_true, Bool.true_and, Bool.and_false, Bool.false_and, Bool.or_true, Bool.true_or, Bool.or_false, Bool.false_or, Bool.and_self, Bool.not_true, Bool.not_false, if_true, if_false, List.map_cons, List.map_nil, List.cons_append, List.nil_append, List.append_nil, leave, resOf, res1, resL, Hp.cut_self, ite_self, reduceIte, reduceCtorEq, Nat.reduceAdd, Nat.reduceMul, Nat.reduceEqDiff, Nat.reduceLT, Nat.reduceLeDiff, Nat.reduceSub, List.drop_zero, List.drop_succ_cons, List.take_zero, List.take_succ_cons, Int.toNat_zero, decide_true, decide_false, decide_eq_true_eq, decide_eq_false_iff_not, Bool.false_eq_true, and_true, true_and, and_self, and_false, false_and, Option.some.injEq, Nat.add_zero, Nat.zero_add, beq_self_eq_true, ne_eq, not_true_eq_false, not_false_eq_true, noOwnL, cellOkL, tgL, Hp.cut_set_self, List.set_cons_zero, List.set_cons_succ, List.length_set]
  generalize shareE e3 = e5 at p3 p6 ⊢
  have hF : (if (0 : Int) > off then (0 : Int) else off) = ((wfrom (id, off, len) : Nat) : Int) := by
    simp only [wfrom]; split <;> omega
  have hT : (if (n : Int) < IntKind.i64.wrap (off + len) then (n : Int) else IntKind.i64.wrap (off + len)) = wto n (id, off, len) := rfl
  have hTn : wto n (id, off, len) ≤ n := by unfold wto; split <;> omega
  have hput : wput (id, off, len) l = fillI l (wfrom (id, off, len)) (wto n (id, off, len)).toNat id := by rw [← hl]; rfl
  rw [hput]
  generalize wfrom (id, off, len) = F at hF ⊢
  generalize wto n (id, off, len) = T at hT hTn ⊢
  have key2 : Post (fun s => s.2 = hS (fillI l F T.toNat id)) (fun _ => False) (evX call r_window_Word.boA (e5, hS l)) := by
    simp only [r_window_Word, p3, p6, hF, hT, post_n, post_e, post_r, post_seq, post_block, post_cond, post_skip, post_exit, post_ret, post_ops, inBlk_e, inBlk_r, done, doneQ_r, doneP, donePQ_r, xcons, xnil, step, stepGo, rds, rd, updO, upd, init, semH, sem, semT, sMv, sPick, sNil, sAgg, sLit, sBin, neg, sBeq, sEqs, sNilI, sNilP, sNilF, sNot, sNeg, sXor, sConv, sConvS, sB2s, sMkI, sMkF, sRep, sSlS, sSlL, sFa, sFld, sIxA, sIxS, sIxG, sAsrt, sExt, sLdI, sLenS, sLenL, sMx, sMn, sApp, sAppS, sBox, sFrs, sIni, sLit0, sIxP, sS2b, sCallV, hLd, hBox, hNew, hCallV, bin, binI, binS, bnd, shiftI, takeC, foldO, mx2, mn2, isTupL, setsA, fillA, List.getElem?_cons_zero, List.getElem?_cons_succ, List.getElem?_nil, List.length_cons, List.length_nil, shareL, share1L, cellsL, leafL, puLL, puLN, List.all_cons, List.all_nil, Bool.and_true, Bool.true_and, Bool.and_false, Bool.false_and, Bool.or_true, Bool.true_or, Bool.or_false, Bool.false_or, Bool.and_self, Bool.not_true, Bool.not_false, if_true, if_false, List.map_cons, List.map_nil, List.cons_append, List.nil_append, List.append_nil, leave, resOf, res1, resL, Hp.cut_self, ite_self, reduceIte, reduceCtorEq, Nat.reduceAdd, Nat.reduceMul, Nat.reduceEqDiff, Nat.reduceLT, Nat.reduceLeDiff, Nat.reduceSub, List.drop_zero, List.drop_succ_cons, List.take_zero, List.take_succ_cons, Int.toNat_zero, decide_true, decide_false, decide_eq_true_eq, decide_eq_false_iff_not, Bool.false_eq_true, and_true, true_and, and_self, and_false, false_and, Option.some.injEq, Nat.add_zero, Nat.zero_add, beq_self_eq_true, ne_eq, not_true_eq_false, not_false_eq_true, noOwnL, cellOkL, tgL, Hp.cut_set_self, List.set_cons_zero, List.set_cons_succ, List.length_set]
    refine post_count (fun i e => F ≤ i ∧ e.1 3 = .imm [.msl 0 0 1 n] 0 ∧ e.1 6 = .imm [.int .i64 id, .int .i64 off, .int .i64 len] 0 ∧ e.1 8 = .int .i64 T ∧ e.1 9 = .int .i64 i ∧ e.2 = hS (fillI l F i id)) (max F T.toNat) F (by omega) ?_ ?_ ?_
    · exact ⟨Nat.le_refl _, by simp [upd, p3], by simp [upd, p6], by simp [upd], by simp [upd], by rw [fill_none _ (Nat.le_refl _)]⟩
    · rintro i ⟨e, hh⟩ hi ⟨g, g1, g2, g3, g4, g5⟩
      simp only at g1 g2 g3 g4 g5
      subst g5
      have k1 : (i : Int) < T := by omega
      have hin : i < n := by omega
      have k2 : (i : Int) < n := by omega
      have k3 : IntKind.i64.wrap ((i : Int) + 1) = ((i + 1 : Nat) : Int) := by rw [wI64 (by omega) (by omega)]; omega
      have k5 : (0 : Int) ≤ (i : Int) := by omega
      have k6 := hSt_hS (l := fillI l F i id) (i := i) id (by rw [fill_len, hl]; exact hin)
      rw [fill_set _ g] at k6
      have k7 : F ≤ i + 1 := by omega
      simp only [b1_rwindow_Word, g1, g2, g3, g4, k1, k2, k3, k5, k6, k7, Int.toNat_natCast, Nat.mul_one, post_n, post_e, post_r, post_seq, post_block, post_cond, post_skip, post_exit, post_ret, post_ops, inBlk_e, inBlk_r, done, doneQ_r, doneP, donePQ_r, xcons, xnil, step, stepGo, rds, rd, updO, upd, init, semH, sem, semT, sMv, sPick, sNil, sAgg, sLit, sBin, neg, sBeq, sEqs, sNilI, sNilP, sNilF, sNot, sNeg, sXor, sConv, sConvS, sB2s, sMkI, sMkF, sRep, sSlS, sSlL, sFa, sFld, sIxA, sIxS, sIxG, sAsrt, sExt, sLdI, sLenS, sLenL, sMx, sMn, sApp, sAppS, sBox, sFrs, sIni, sLit0, sIxP, sS2b, sCallV, hLd, hBox, hNew, hCallV, bin, binI, binS, bnd, shiftI, takeC, foldO, mx2, mn2, isTupL, setsA, fillA, List.getElem?_cons_zero, List.getElem?_cons_succ, List.getElem?_nil, List.length_cons, List.length_nil, shareL, share1L, cellsL, leafL, puLL, puLN, List.all_cons, List.all_nil, Bool.and_true, Bool.true_and, Bool.and_false, Bool.false_and, Bool.or_true, Bool.true_or, Bool.or_false, Bool.false_or, Bool.and_self, Bool.not_true, Bool.not_false, if_true, if_false, List.map_cons, List.map_nil, List.cons_append, List.nil_append, List.append_nil, leave, resOf, res1, resL, Hp.cut_self, ite_self, reduceIte, reduceCtorEq, Nat.reduceAdd, Nat.reduceMul, Nat.reduceEqDiff, Nat.reduceLT, Nat.reduceLeDiff, Nat.reduceSub, List.drop_zero, List.drop_succ_cons, List.take_zero, List.take_succ_cons, Int.toNat_zero, decide_true, decide_false, decide_eq_true_eq, decide_eq_false_iff_not, Bool.false_eq_true, and_true, true_and, and_self, and_false, false_and, Option.some.injEq, Nat.add_zero, Nat.zero_add, beq_self_eq_true, ne_eq, not_true_eq_false, not_false_eq_true, noOwnL, cellOkL, tgL, Hp.cut_set_self, List.set_cons_zero, List.set_cons_succ, List.length_set]
    · rintro ⟨e, hh⟩ ⟨g, g1, g2, g3, g4, g5⟩
      simp only at g1 g2 g3 g4 g5
      subst g5
      have k1 : ¬ (((max F T.toNat : Nat) : Int) < T) := by omega
      have hf : fillI l F (max F T.toNat) id = fillI l F T.toNat id := by
        rcases Nat.lt_or_ge F T.toNat with h | h
        · rw [Nat.max_eq_right (by omega)]
        · rw [Nat.max_eq_left h, fill_none _ (Nat.le_refl _), fill_none _ h]
      simp only [b1_rwindow_Word, g1, g2, g3, g4, k1, hf, post_n, post_e, post_r, post_seq, post_block, post_cond, post_skip, post_exit, post_ret, post_ops, inBlk_e, inBlk_r, done, doneQ_r, doneP, donePQ_r, xcons, xnil, step, stepGo, rds, rd, updO, upd, init, semH, sem, semT, sMv, sPick, sNil, sAgg, sLit, sBin, neg, sBeq, sEqs, sNilI, sNilP, sNilF, sNot, sNeg, sXor, sConv, sConvS, sB2s, sMkI, sMkF, sRep, sSlS, sSlL, sFa, sFld, sIxA, sIxS, sIxG, sAsrt, sExt, sLdI, sLenS, sLenL, sMx, sMn, sApp, sAppS, sBox, sFrs, sIni, sLit0, sIxP, sS2b, sCallV, hLd, hBox, hNew, hCallV, bin, binI, binS, bnd, shiftI, takeC, foldO, mx2, mn2, isTupL, setsA, fillA, List.getElem?_cons_zero, List.getElem?_cons_succ, List.getElem?_nil, List.length_cons, List.length_nil, shareL, share1L, cellsL, leafL, puLL, puLN, List.all_cons, List.all_nil, Bool.and_true, Bool.true_and, Bool.and_false, Bool.false_and, Bool.or_true, Bool.true_or, Bool.or_false, Bool.false_or, Bool.and_self, Bool.not_true, Bool.not_false, if_true, if_false, List.map_cons, List.map_nil, List.cons_append, List.nil_append, List.append_nil, leave, resOf, res1, resL, Hp.cut_self, ite_self, reduceIte, reduceCtorEq, Nat.reduceAdd, Nat.reduceMul, Nat.reduceEqDiff, Nat.reduceLT, Nat.reduceLeDiff, Nat.reduceSub, List.drop_zero, List.drop_succ_cons, List.take_zero, List.take_succ_cons, Int.toNat_zero, decide_true, decide_false, decide_eq_true_eq, decide_eq_false_iff_not, Bool.false_eq_true, and_true, true_and, and_self, and_false, false_and, Option.some.injEq, Nat.add_zero, Nat.zero_add, beq_self_eq_true, ne_eq, not_true_eq_false, not_false_eq_true, noOwnL, cellOkL, tgL, Hp.cut_set_self, List.set_cons_zero, List.set_cons_succ, List.length_set]
  obtain ⟨⟨e4, h4⟩, r1, r2⟩ := of_post key2
  simp only at r2
  subst r2
  exact ⟨e4, q1, r1⟩
end

theorem back_rows (ws : List Win) (h : ws.length ≤ 1000000) : itBack 3 true [.imm [.sl false 3 (ws.map wv)] 0] = some ((List.range (ws.map wv).length).map (backRow 3 true (ws.map wv))) := by
  unfold itBack
  simp only
  have hall : ((ws.map wv).all fun x => match takeC x.cells 0 3 true with | some y => y.pu | none => false) = true := by
    rw [List.all_eq_true]
    intro x hx
    obtain ⟨w, _, rfl⟩ := List.mem_map.1 hx
    rfl
  rw [if_pos ⟨trivial, by simp; omega, hall⟩]
theorem acc_len (n : Nat) (ws : List Win) : (ws.foldr wput (List.replicate n (-1))).length = n := word_len n ws

theorem law_word [Glob] (eqs : ∀ t ∈ EQ, EqLaw Go.Proofs.Tryd.prog t) : PrimLaw Go.Proofs.Tryd.prog f_window_Word pWord := by
  intro call hcall xs us r C w hr hw hg hv hs
  unfold pWord at hr
  split at hr <;> try (simp at hr; done)
  rename_i a fr l nd
  split at hr <;> try (simp at hr; done)
  rename_i f l' hq
  split at hr <;> try (simp at hr; done)
  rename_i hcd
  obtain ⟨rfl, hfr, hl⟩ := hcd
  split at hr <;> try (simp at hr; done)
  rename_i ws hws
  have hr := (Option.some.inj hr).symm
  subst hr
  have hlw := winOf_some hws
  subst hlw
  obtain ⟨e1, hpre, h25, h3⟩ := word_pre hq hfr
  have hwl : ws.length ≤ 1000000 := by simpa using hl
  obtain ⟨n, hn⟩ : ∃ n : Nat, fr.toNat = n := ⟨_, rfl⟩
  rw [hn] at hpre h3 ⊢
  have hn6 : n ≤ 1000000 := by omega
  refine range_fn (rf := r_window_Word) (by kernel_rfl) eqs Go.Proofs.Tryd.func34 chkR_window_Word (back_law (k := 3) (agg := true) (fn := Go.Proofs.Tryd.f58) eqs Go.Proofs.Tryd.func58 (by kernel_rfl)) Go.Proofs.Tryd.func58 (by kernel_rfl) hcall hw hg hv hs rfl hpre
    (caps := [.imm [.sl false 3 (ws.map wv)] 0]) (show (e1 25).share = _ by rw [h25]; rfl) rfl (back_rows ws hwl) (fun row hrow => by obtain ⟨j, _, rfl⟩ := List.mem_map.1 hrow; rfl)
    (fun k h2 => h2 = hS ((ws.drop (ws.length - k)).foldr wput (List.replicate n (-1)))) (fun _ _ => False) (by simp) ?_ ?_ (fun _ h => h.elim) (fun _ _ h => h.elim)
  · rintro k row h2 hrow rfl
    have hk : k < ws.length := by
      have := (List.getElem?_eq_some_iff.1 hrow).1
      simpa using this
    have hi : ws.length - 1 - k < ws.length := by omega
    have hrow' : row = [.int .i64 ((ws.length - 1 - k : Nat) : Int), wv ws[ws.length - 1 - k]] := by
      have h1 : ((List.range (ws.map wv).length).map (backRow 3 true (ws.map wv)))[k]? = some (backRow 3 true (ws.map wv) k) := by simp [hk]
      rw [hrow] at h1
      rw [Option.some.inj h1]
      have h2 : (ws.map wv).getD (ws.length - 1 - k) .undef = wv ws[ws.length - 1 - k] := by simp [List.getD_eq_getElem?_getD, hi]
      simp only [backRow, List.length_map, h2]
      rfl
    subst hrow'
    obtain ⟨e3, e4, q1, q2⟩ := word_round (call := callP call) h3 hn6 ws[ws.length - 1 - k] ((ws.drop (ws.length - k)).foldr wput (List.replicate n (-1))) (acc_len n _) ((ws.length - 1 - k : Nat) : Int)
    refine ⟨e3, _, .normal, e4, _, q1, q2, fun _ => ?_, fun h => absurd rfl h⟩
    congr 1
    rw [show ws.length - (k + 1) = ws.length - 1 - k by omega, List.drop_eq_getElem_cons hi, List.foldr_cons, show ws.length - 1 - k + 1 = ws.length - k by omega]
  · rintro h2 (rfl | h)
    · have hL : ((ws.drop (ws.length - ((List.range (ws.map wv).length).map (backRow 3 true (ws.map wv))).length)).foldr wput (List.replicate n (-1))) = wordL n ws := by
        simp [wordL]
      rw [hL]
      have p3 : shareE e1 3 = .imm [.msl 0 0 1 n] 0 := by simp only [shareE, h3, post_n, post_e, post_r, post_seq, post_block, post_cond, post_skip, post_exit, post_ret, post_ops, inBlk_e, inBlk_r, done, doneQ_r, doneP, donePQ_r, xcons, xnil, step, stepGo, rds, rd, updO, upd, init, semH, sem, semT, sMv, sPick, sNil, sAgg, sLit, sBin, neg, sBeq, sEqs, sNilI, sNilP, sNilF, sNot, sNeg, sXor, sConv, sConvS, sB2s, sMkI, sMkF, sRep, sSlS, sSlL, sFa, sFld, sIxA, sIxS, sIxG, sAsrt, sExt, sLdI, sLenS, sLenL, sMx, sMn, sApp, sAppS, sBox, sFrs, sIni, sLit0, sIxP, sS2b, sCallV, hLd, hBox, hNew, hCallV, bin, binI, binS, bnd, shiftI, takeC, foldO, mx2, mn2, isTupL, setsA, fillA, List.getElem?_cons_zero, List.getElem?_cons_succ, List.getElem?_nil, List.length_cons, List.length_nil, shareL, share1L, cellsL, leafL, puLL, puLN, List.all_cons, List.all_nil, Bool.and_true, Bool.true_and, Bool.and_false, Bool.false_and, Bool.or_true, Bool.true_or, Bool.or_false, Bool.false_or, Bool.and_self, Bool.not_true, Bool.not_false, if_true, if_false, List.map_cons, List.map_nil, List.cons_append, List.nil_append, List.append_nil, leave, resOf, res1, resL, Hp.cut_self, ite_self, reduceIte, reduceCtorEq, Nat.reduceAdd, Nat.reduceMul, Nat.reduceEqDiff, Nat.reduceLT, Nat.reduceLeDiff, Nat.reduceSub, List.drop_zero, List.drop_succ_cons, List.take_zero, List.take_succ_cons, Int.toNat_zero, decide_true, decide_false, decide_eq_true_eq, decide_eq_false_iff_not, Bool.false_eq_true, and_true, true_and, and_self, and_false, false_and, Option.some.injEq, Nat.add_zero, Nat.zero_add, beq_self_eq_true, ne_eq, not_true_eq_false, not_false_eq_true, noOwnL, cellOkL, tgL, Hp.cut_set_self, List.set_cons_zero, List.set_cons_succ, List.length_set]
      generalize shareE e1 = e5 at p3 ⊢
      have key : evX (callP call) (seqs r_window_Word.post) (e5, hS (wordL n ws)) = some (.ret, (upd (upd (upd e5 50 (.msl 0 0 1 n)) 50 (.msl 0 0 1 n)) 2 (.msl 0 0 1 n), hS (wordL n ws))) := by
        simp only [r_window_Word, seqs, xseq, xops, xret, p3, post_n, post_e, post_r, post_seq, post_block, post_cond, post_skip, post_exit, post_ret, post_ops, inBlk_e, inBlk_r, done, doneQ_r, doneP, donePQ_r, xcons, xnil, step, stepGo, rds, rd, updO, upd, init, semH, sem, semT, sMv, sPick, sNil, sAgg, sLit, sBin, neg, sBeq, sEqs, sNilI, sNilP, sNilF, sNot, sNeg, sXor, sConv, sConvS, sB2s, sMkI, sMkF, sRep, sSlS, sSlL, sFa, sFld, sIxA, sIxS, sIxG, sAsrt, sExt, sLdI, sLenS, sLenL, sMx, sMn, sApp, sAppS, sBox, sFrs, sIni, sLit0, sIxP, sS2b, sCallV, hLd, hBox, hNew, hCallV, bin, binI, binS, bnd, shiftI, takeC, foldO, mx2, mn2, isTupL, setsA, fillA, List.getElem?_cons_zero, List.getElem?_cons_succ, List.getElem?_nil, List.length_cons, List.length_nil, shareL, share1L, cellsL, leafL, puLL, puLN, List.all_cons, List.all_nil, Bool.and_true, Bool.true_and, Bool.and_false, Bool.false_and, Bool.or_true, Bool.true_or, Bool.or_false, Bool.false_or, Bool.and_self, Bool.not_true, Bool.not_false, if_true, if_false, List.map_cons, List.map_nil, List.cons_append, List.nil_append, List.append_nil, leave, resOf, res1, resL, Hp.cut_self, ite_self, reduceIte, reduceCtorEq, Nat.reduceAdd, Nat.reduceMul, Nat.reduceEqDiff, Nat.reduceLT, Nat.reduceLeDiff, Nat.reduceSub, List.drop_zero, List.drop_succ_cons, List.take_zero, List.take_succ_cons, Int.toNat_zero, decide_true, decide_false, decide_eq_true_eq, decide_eq_false_iff_not, Bool.false_eq_true, and_true, true_and, and_self, and_false, false_and, Option.some.injEq, Nat.add_zero, Nat.zero_add, beq_self_eq_true, ne_eq, not_true_eq_false, not_false_eq_true, noOwnL, cellOkL, tgL, Hp.cut_set_self, List.set_cons_zero, List.set_cons_succ, List.length_set]
      refine ⟨.ret, _, _, .msl 0 0 1 n, key, .inr rfl, rfl, ?_⟩
      unfold outF
      simp only [hS_m]
      have hall : (((wordL n ws).map iv).all fun c => c.leaf && c.pu) = true := by
        rw [List.all_eq_true]
        intro c hc
        obtain ⟨x, _, rfl⟩ := List.mem_map.1 hc
        rfl
      rw [if_pos ⟨trivial, by simp [word_len], hall⟩]
      simp [word_len, List.take_of_length_le]
    · exact h.elim
end Go.Vm.S
