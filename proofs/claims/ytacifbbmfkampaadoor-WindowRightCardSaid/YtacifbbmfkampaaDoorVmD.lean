/- Operations that only compute: each comes to what the abstract machine says. -/
import Derived.Test.YtacifbbmfkampaaDoorVmC
import Derived.Laws.Tables
namespace Go.Vm
open Go.RowKit
set_option linter.unusedVariables false
set_option linter.unusedSimpArgs false
set_option linter.unusedSectionVars false
variable [Glob]

section
variable {P : Program} {n0 : Nat} {C : Pub} {w : World} {vals : List AV} {vs : List Value} {r : AV} {Bs : List Nat}

theorem res_v {s : Sem Value} {w' : World} {v : Value} {post : Value → World → Prop} (h : s.run P w = .ok v w') (hp : post v w') :
    Res P ((do let x ← s; pure (Next.value x) : Sem Next).run P w) post := by
  simp only [Sem.run_bind, h, Result.andThen_ok, Sem.run_pure]; exact hp
theorem res_p {v : Value} {post : Value → World → Prop} (hp : post v w) : Res P ((pure (Next.value v) : Sem Next).run P w) post := hp

theorem sim_pick (h : Args n0 C w vals vs) (hr : sPick vals = some r) :
    ∃ c x y, vs = [c, x, y] ∧ Res P ((do pure (Next.value (if ← asBool c then x else y)) : Sem Next).run P w) (Fin n0 C w Bs r) := by
  unfold sPick at hr
  split at hr <;> simp at hr
  rename_i b x y
  obtain ⟨c, u, t, rfl, h1, h2, h3⟩ := h.three
  cases h1
  refine ⟨_, u, t, rfl, ?_⟩
  subst hr
  cases b
  · simp only [asBool, Sem.run_bind, Sem.run_pure, Result.andThen_ok]
    exact Fin.same h.wd h3.share (comps_share _ _)
  · simp only [asBool, Sem.run_bind, Sem.run_pure, Result.andThen_ok]
    exact Fin.same h.wd h2.share (comps_share _ _)

theorem sim_nil (h : Args n0 C w vals vs) (hr : sNil vals = some r) :
    ∃ v, vs = [v] ∧ Res P ((match v with
    | .pointer none | .nilIface | .nilFunc => runtimePanic .nilDeref
    | .func (.method name) first captured =>
      match (first[0]? : Option Value) with
      | some .nilIface => runtimePanic .nilDeref
      | some (.iface t w) => do
        if (← nilAhead ((← program).types.size + Made.depth) t w name) != some false then
          unsupported (.noEntry "op/nilCheck.the method's receiver behind this interface value is a nil pointer, or cannot be seen to be none, and the arguments act or may panic (ledger 612)")
        pure (.value (.func (.method name) first captured))
      | _ => pure (.value (.func (.method name) first captured))
    | x => pure (.value x) : Sem Next).run P w) (Fin n0 C w Bs r) := by
  unfold sNil at hr
  split at hr <;> simp at hr <;> subst hr <;> obtain ⟨v, rfl, h1, h2, h3⟩ := h.one <;> refine ⟨v, rfl, ?_⟩
  · cases h1 with | imm _ _ b q cv a1 a2 => exact Fin.shared h.wd (.imm _ _ b q cv a1 a2) rfl
  · cases h1
  · obtain ⟨ws, rfl, h'⟩ := h1.fn_inv; exact Fin.shared h.wd (VR.fn_mk h') rfl
  · cases h1 with | ifc t x v h' => exact Fin.shared h.wd (.ifc _ _ _ h') rfl

theorem run_eqGuard_int (op : BinOp) (t : TypeId) (x y : Operand) (k k' : IntKind) (a b : Int) : (eqGuard op t x y (.int k a) (.int k' b)).run P w = .ok () w := by
  cases op <;> rfl
theorem run_eqGuard_str (op : BinOp) (t : TypeId) (x y : Operand) (a b : ByteArray) : (eqGuard op t x y (.string a) (.string b)).run P w = .ok () w := by
  cases op <;> rfl
theorem run_eqGuard_bool (op : BinOp) (t : TypeId) (x y : Operand) (a b : Bool) : (eqGuard op t x y (.bool a) (.bool b)).run P w = .ok () w := by
  cases op <;> rfl

theorem sim_bin (op : BinOp) (t : TypeId) (x y : Operand) (h : Args n0 C w vals vs) (hr : sBin op vals = some r) :
    ∃ a b, vs = [a, b] ∧ ∃ v, (do eqGuard op t x y a b; binOp op t a b : Sem Value).run P w = .ok v w ∧ Fin n0 C w Bs r v w := by
  unfold sBin at hr
  split at hr <;> try (simp at hr; done)
  obtain ⟨a, b, rfl, h1, h2⟩ := h.two
  refine ⟨a, b, rfl, ?_⟩
  unfold bin at hr
  split at hr <;> try (simp at hr; done)
  · rename_i k p k' q
    cases h1; cases h2
    simp only [Sem.run_bind, run_eqGuard_int, Result.andThen_ok]
    cases op
    case shl =>
      simp only [shiftI] at hr
      split at hr <;> simp at hr
      rename_i hn; subst hr
      refine ⟨_, ?_, Fin.shared h.wd (.int _ _) rfl⟩
      simp [binOp, Op.shift, hn]
    case shr =>
      simp only [shiftI] at hr
      split at hr <;> simp at hr
      rename_i hn; subst hr
      refine ⟨_, ?_, Fin.shared h.wd (.int _ _) rfl⟩
      simp [binOp, Op.shift, hn]
    all_goals
      simp only at hr
      split at hr <;> try (simp at hr; done)
      rename_i hk
      subst hk
      simp only [binI] at hr
      first
        | (simp only [Option.some.injEq] at hr; subst hr; refine ⟨_, ?_, Fin.shared h.wd (by first | exact .int _ _ | exact .bool _) rfl⟩; simp only [binOp, ne_eq, not_true_eq_false, if_false]; rfl)
        | (split at hr <;> simp only [Option.some.injEq, reduceCtorEq] at hr; rename_i hz; subst hr; refine ⟨_, ?_, Fin.shared h.wd (.int _ _) rfl⟩; simp [binOp, Op.intDiv, hz])
        | (simp at hr; done)
  · rename_i p q
    cases h1; cases h2
    simp only [Sem.run_bind, run_eqGuard_str, Result.andThen_ok]
    cases op <;> simp only [binS] at hr <;> try (simp at hr; done)
    case add =>
      split at hr <;> simp at hr
      rename_i hs; subst hr
      refine ⟨.string ⟨(p ++ q).toArray⟩, ?_, Fin.shared h.wd (.str _) rfl⟩
      have e : (⟨p.toArray⟩ : ByteArray) ++ ⟨q.toArray⟩ = ⟨(p ++ q).toArray⟩ := by
        apply ByteArray.ext; simp
      have s1 : ByteArray.size ⟨p.toArray⟩ = p.length := by simp [ByteArray.size]
      have s2 : ByteArray.size ⟨q.toArray⟩ = q.length := by simp [ByteArray.size]
      have n1 : ¬ (((ByteArray.size ⟨p.toArray⟩ + ByteArray.size ⟨q.toArray⟩ : Nat) : Int) > IntKind.i64.max) := by
        rw [s1, s2]; have : IntKind.i64.max = 9223372036854775807 := by decide
        rw [this]; omega
      simp only [binOp, Op.stringOp, if_neg n1, e, Sem.run_pure]
    all_goals
      simp only [Option.some.injEq] at hr
      subst hr
      refine ⟨_, ?_, Fin.shared h.wd (.bool _) rfl⟩
      have e1 : (p == q) = decide (p = q) := by rw [Bool.eq_iff_iff]; simp
      simp only [binOp, Op.stringOp, ByteArray.toList_eq, e1, Sem.run_pure]

theorem run_equalIn_bool (d : Nat) (t : TypeId) (ht : P.underlying t = some .bool) (a b : Bool) : (Op.equalIn (d + 1) t (.bool a) (.bool b)).run P w = .ok (a == b) w := by
  simp only [Op.equalIn, Sem.run_bind, run_underlying ht, Result.andThen_ok, Sem.run_pure]
theorem run_eqBool (t : TypeId) (ht : P.underlying t = some .bool) (a b : Bool) : (Op.equal t (.bool a) (.bool b)).run P w = .ok (a == b) w :=
  run_equalIn_bool 9999 t ht a b
theorem sim_beq (n : Bool) (t : TypeId) (ht : P.underlying t = some .bool) (x y : Operand) (h : Args n0 C w vals vs) (hr : sBeq n vals = some r) :
    ∃ a b, vs = [a, b] ∧ ∃ v, (do eqGuard (if n then .neq else .eql) t x y a b; binOp (if n then .neq else .eql) t a b : Sem Value).run P w = .ok v w ∧ Fin n0 C w Bs r v w := by
  unfold sBeq at hr
  split at hr <;> simp at hr
  obtain ⟨a, b, rfl, h1, h2⟩ := h.two
  cases h1; cases h2; subst hr
  refine ⟨_, _, rfl, ?_⟩
  simp only [Sem.run_bind, run_eqGuard_bool, Result.andThen_ok]
  cases n
  · refine ⟨_, ?_, Fin.shared h.wd (.bool _) rfl⟩
    simp [binOp, run_eqBool t ht]
  · refine ⟨_, ?_, Fin.shared h.wd (.bool _) rfl⟩
    simp [binOp, run_eqBool t ht, bne]

end
end Go.Vm
