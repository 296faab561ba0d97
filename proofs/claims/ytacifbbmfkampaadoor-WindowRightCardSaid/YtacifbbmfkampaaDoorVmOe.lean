/- slices.Backward: what its function's regions compute. -/
import Derived.Test.YtacifbbmfkampaaDoorVmOd
import Derived.Test.YtacifbbmfkampaaDoorVmR
namespace Go.Vm
open Go.RowKit
set_option linter.unusedVariables false
set_option linter.unusedSimpArgs false
set_option linter.unusedSectionVars false
variable [Glob]

def backA0 : List AOper := [⟨some 4, .ldI 1 false, [.t 1], none⟩, ⟨some 5, .lenL, [.t 4], none⟩, ⟨some 6, .bin .sub, [.t 5, .c (.int .i64 1)], none⟩, ⟨some 3, .mv, [.t 6], none⟩]
def backA1 : List AOper := [⟨some 7, .mv, [.t 3], none⟩, ⟨some 8, .bin .geq, [.t 7, .c (.int .i64 0)], none⟩]
def backA3 (k : Nat) (agg : Bool) : List AOper := [⟨some 12, .mv, [.t 3], none⟩, ⟨some 13, .ldI 1 false, [.t 1], none⟩, ⟨some 14, .mv, [.t 3], none⟩, ⟨some 15, .ixA k, [.t 13, .t 14], none⟩, ⟨some 16, .ldI k agg, [.t 15], none⟩]
def backAn : List AOper := [⟨some 18, .unot, [.t 17], none⟩]
def backA2 : List AOper := [⟨some 9, .mv, [.t 3], none⟩, ⟨some 10, .bin .sub, [.t 9, .c (.int .i64 1)], none⟩, ⟨some 3, .mv, [.t 10], none⟩]
def bhd (c : AV) (i : Int) : Env := fun t => if t = 1 then c else if t = 3 then .int .i64 i else .undef
def bhy (c : AV) (i : Int) (b : Bool) : Env := fun t => if t = 1 then c else if t = 3 then .int .i64 i else if t = 17 then .bool b else .undef

section
variable {k : Nat} {l : List AV} {agg : Bool} {i : Int}

theorem back_s0 (hp : (AV.sl false k l).pu = true) (hl : l.length ≤ 4611686018427387904) : ∃ e', steps callN backA0 (fun t => if t = 1 then .imm [.sl false k l] 0 else .undef, Hp.e) = some (e', Hp.e) ∧ e' 3 = .int .i64 ((l.length : Int) - 1) := by
  have hw : IntKind.i64.wrap ((l.length : Int) - 1) = (l.length : Int) - 1 := wI64 (by omega) (by omega)
  simp [backA0, steps, step, stepGo, rds, rd, semH, sem, sMv, sLdI, sLenL, sBin, bin, binI, takeC, upd, updO, AV.share, AV.share1, AV.leaf, AV.pu, AV.pu.puL, hw, AV.pu] at hp ⊢

theorem back_s1 (c : AV) : ∃ e', steps callN backA1 (bhd c i, Hp.e) = some (e', Hp.e) ∧ e' 3 = .int .i64 i ∧ e' 8 = .bool (decide (0 ≤ i)) := by
  simp [backA1, bhd, steps, step, stepGo, rds, rd, semH, sem, sMv, sBin, bin, binI, upd, updO, AV.share, AV.share1, AV.pu]

theorem back_s2 (c : AV) (b : Bool) (h1 : 0 ≤ i) (h2 : i < 9223372036854775808) : ∃ e', steps callN backA2 (bhd c i, Hp.e) = some (e', Hp.e) ∧ e' 3 = .int .i64 (i - 1) := by
  have hw : IntKind.i64.wrap (i - 1) = i - 1 := wI64 (by omega) (by omega)
  simp [backA2, bhd, steps, step, stepGo, rds, rd, semH, sem, sMv, sBin, bin, binI, upd, updO, AV.share, AV.share1, AV.pu, hw]

theorem back_sn (c : AV) (b : Bool) : ∃ e', steps callN backAn (bhy c i b, Hp.e) = some (e', Hp.e) ∧ e' 3 = .int .i64 i ∧ e' 18 = .bool (!b) := by
  simp [backAn, bhy, steps, step, stepGo, rds, rd, semH, sem, sNot, upd, updO, AV.share, AV.share1, AV.pu]

theorem back_s3 {j : Nat} {x y : AV} (hx : l[j]? = some x) (hy : takeC x.cells 0 k agg = some y) :
    ∃ e', steps callN (backA3 k agg) (bhd (.imm [.sl false k l] 0) j, Hp.e) = some (e', Hp.e) ∧ e' 3 = .int .i64 j ∧ e' 12 = .int .i64 j ∧ e' 16 = y := by
  have h1 : step callN ⟨some 16, .ldI k agg, [.t 15], none⟩ (upd (upd (upd (upd (bhd (.imm [.sl false k l] 0) j) 12 (.int .i64 j)) 13 (.sl false k l)) 14 (.int .i64 j)) 15 (.imm x.cells 0), Hp.e) = some (upd (upd (upd (upd (upd (bhd (.imm [.sl false k l] 0) j) 12 (.int .i64 j)) 13 (.sl false k l)) 14 (.int .i64 j)) 15 (.imm x.cells 0)) 16 y, Hp.e) := by
    have hs : ∀ b : Bool, (if b = true then (match sem callN.pure (.ldI k agg) [.imm x.cells 0] with | some r => some (r, Hp.e) | none => none) else (match semT (.ldI k agg) [.imm x.cells 0] with | some r => some (r, Hp.e) | none => none)) = some (y, Hp.e) := by
      intro b; cases b <;> simp [sem, semT, sLdI, hy]
    show (match semH callN (.ldI k agg) [(AV.imm x.cells 0).share] Hp.e with | some (v, h) => some (updO _ (some 16) v, h) | none => none) = _
    have : semH callN (.ldI k agg) [(AV.imm x.cells 0).share] Hp.e = some (y, Hp.e) := hs _
    rw [this]; rfl
  have h2 : steps callN [⟨some 12, .mv, [.t 3], none⟩, ⟨some 13, .ldI 1 false, [.t 1], none⟩, ⟨some 14, .mv, [.t 3], none⟩, ⟨some 15, .ixA k, [.t 13, .t 14], none⟩] (bhd (.imm [.sl false k l] 0) j, Hp.e) = some (upd (upd (upd (upd (bhd (.imm [.sl false k l] 0) j) 12 (.int .i64 j)) 13 (.sl false k l)) 14 (.int .i64 j)) 15 (.imm x.cells 0), Hp.e) := by
    simp [bhd, steps, step, stepGo, rds, rd, semH, sem, sMv, sLdI, sIxA, takeC, upd, updO, AV.share, AV.share1, AV.pu, AV.pu.puL, AV.leaf, hx]
  refine ⟨upd (upd (upd (upd (upd (bhd (.imm [.sl false k l] 0) j) 12 (.int .i64 j)) 13 (.sl false k l)) 14 (.int .i64 j)) 15 (.imm x.cells 0)) 16 y, ?_, ?_, ?_, ?_⟩
  · have key : ∀ (os : List AOper) (o : AOper) (s s1 s2 : Env × Hp), steps callN os s = some s1 → step callN o s1 = some s2 → steps callN (os ++ [o]) s = some s2 := by
      intro os
      induction os with
      | nil => intro o s s1 s2 h1 h2; simp [steps] at h1; subst h1; simp [steps, h2]
      | cons p os ih =>
        intro o s s1 s2 h1 h2
        simp only [steps, List.cons_append] at h1 ⊢
        split at h1 <;> try (simp at h1; done)
        exact ih o _ s1 s2 h1 h2
    exact key _ _ _ _ _ h2 h1
  · simp [upd, bhd]
  · simp [upd, bhd]
  · simp [upd]

def yieldB : Oper → Bool
  | ⟨some 17, .call ⟨.value (.tmp 11), ⟨[.tmp 12, .tmp 16]⟩, _⟩, _, _, _, none⟩ => true
  | _ => false
def moveB : Oper → Bool
  | ⟨some 11, .move (.tmp 0), _, _, _, none⟩ => true
  | _ => false
def backBody (P : Program) (EQ : List TypeId) (n k : Nat) (agg : Bool) : Code → Bool
  | .seq (.region _ r0 false) (.block b0 (.loop (.seq (.seq (.region _ r1 false) (.cond (.tmp 8) .skip (.exit b0'))) (.seq (.block b1 (.seq (.region _ r3 false) (.cond (.tmp 18) .ret .skip))) (.region _ r2 false))))) =>
    b0 == b0' && chkOps P EQ n r0 r0.toList backA0 && noDef r0 && keeps r0.toList 0 && keeps r0.toList 1 && chkOps P EQ n r1 r1.toList backA1 && noDef r1 && keeps r1.toList 0 && keeps r1.toList 1 &&
    chkOps P EQ n r2 r2.toList backA2 && noDef r2 && keeps r2.toList 0 && keeps r2.toList 1 && noDef r3 && (match r3.toList with
      | [m, o1, o2, o3, o4, o5, y, nt] => moveB m && chkOps P EQ n r3 [o1, o2, o3, o4, o5] (backA3 k agg) && yieldB y && chkOps P EQ n r3 [nt] backAn && keeps [o1, o2, o3, o4, o5] 0 && keeps [o1, o2, o3, o4, o5] 1 && keeps [o1, o2, o3, o4, o5] 11 && keeps [nt] 0 && keeps [nt] 1
      | _ => false)
  | _ => false
def backB (P : Program) (EQ : List TypeId) (fn : Func) (k : Nat) (agg : Bool) : Bool :=
  (match fn.body with | some c => backBody P EQ fn.ntmps k agg c | none => false) && fn.results.toList.isEmpty && decide (19 ≤ fn.ntmps)

def backRow (k : Nat) (agg : Bool) (l : List AV) (j : Nat) : List AV := [.int .i64 ((l.length - 1 - j : Nat) : Int), (takeC (l.getD (l.length - 1 - j) .undef).cells 0 k agg).getD .undef]
def itBack (k : Nat) (agg : Bool) : List AV → Option (List (List AV))
  | [.imm [.sl false k' l] 0] => if k' = k ∧ l.length ≤ 4611686018427387904 ∧ l.all (fun x => match takeC x.cells 0 k agg with | some y => y.pu | none => false) = true then
      some ((List.range l.length).map (backRow k agg l)) else none
  | _ => none
end
end Go.Vm
