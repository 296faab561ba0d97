/- Tables of functions. -/
import Derived.Test.YtacifbbmfkampaaDoorVmY
import Derived.Test.YtacifbbmfkampaaDoorVmR
import Derived.Laws.Externs
import Derived.Laws.StructEq
import Derived.Stop.Asserts
namespace Go.Vm
open Go.RowKit
set_option linter.unusedVariables false
set_option linter.unusedSimpArgs false
set_option linter.unusedSectionVars false
variable [Glob]

def PrimLaw (P : Program) (f : FuncId) (F : (FuncId → List AV → Option AV) → List AV → Option AV) : Prop :=
  ∀ call, Calling P call → ∀ xs us r (C : Pub) (w : World), F call xs = some r → Wd C w → Gl C → VRs C xs us → (∀ x ∈ xs, x.share = x) →
    Calls P f us.toArray w fun e w' => ∃ v, e = .returned v ∧ Fin w.heap.size C w [] r v w'
def PrimHLaw (P : Program) (f : FuncId) (F : CallH → List AV → Hp → Option (AV × Hp)) : Prop :=
  ∀ call, CallingH P call → ∀ xs us h r h' (C : Pub) (φ : Phi) (w : World), F call xs h = some (r, h') → Wd C w → Gl C → HR C φ w h → VTs C φ xs us → (∀ x ∈ xs, x.share = x) →
    Calls P f us.toArray w fun e w' => ∃ v, e = .returned v ∧ FinH w.heap.size C φ w h [] r v w' h'

def GoodS (P : Program) (EQ : List TypeId) : Nat → AFn → Prop
  | f, .code af => isX f = false ∧ ∃ fn, P.funcs[f]? = some fn ∧ enterB fn = true ∧ chkFn P EQ fn af = true
  | f, .prim F => isX f = false ∧ (∃ fn, P.funcs[f]? = some fn ∧ enterB fn = true) ∧ PrimLaw P f F
  | f, .primH F => isX f = false ∧ (∃ fn, P.funcs[f]? = some fn ∧ enterB fn = true) ∧ PrimHLaw P f F
  | f, .primX F => isX f = true ∧ XLaw P f F
def TameP (F : (FuncId → List AV → Option AV) → List AV → Option AV) : Prop :=
  (∀ c c', LeP c c' → ∀ xs r, F c xs = some r → F c' xs = some r) ∧
    ∀ (c : Nat → FuncId → List AV → Option AV) (l : FuncId → List AV → Option AV), (∀ k k', k ≤ k' → LeP (c k) (c k')) → (∀ g ys r, l g ys = some r → ∃ k, c k g ys = some r) → ∀ xs r, F l xs = some r → ∃ k, F (c k) xs = some r
def TameH (F : CallH → List AV → Hp → Option (AV × Hp)) : Prop :=
  (∀ c c', Le c c' → ∀ xs h r, F c xs h = some r → F c' xs h = some r) ∧
    ∀ (c : Nat → CallH) (l : CallH), (∀ k k', k ≤ k' → Le (c k) (c k')) → (∀ g ys h r, l g ys h = some r → ∃ k, c k g ys h = some r) → ∀ xs h r, F l xs h = some r → ∃ k, F (c k) xs h = some r
def GoodT : AFn → Prop
  | .code _ => True
  | .prim F => TameP F
  | .primH F => TameH F
  | .primX F => TameH F
theorem tameP_const {F : (FuncId → List AV → Option AV) → List AV → Option AV} (h : ∀ c c' xs, F c xs = F c' xs) : TameP F :=
  ⟨fun c c' _ xs r hr => by rw [h c' c]; exact hr, fun c l _ _ xs r hr => ⟨0, by rw [h _ l]; exact hr⟩⟩
theorem tameH_const {F : CallH → List AV → Hp → Option (AV × Hp)} (h : ∀ c c' xs hh, F c xs hh = F c' xs hh) : TameH F :=
  ⟨fun c c' _ xs hh r hr => by rw [h c' c]; exact hr, fun c l _ _ xs hh r hr => ⟨0, by rw [h _ l]; exact hr⟩⟩
theorem tame_kind (r tab) : TameH (xKind r tab) := tameH_const fun _ _ xs hh => by unfold xKind; split <;> first | rfl | (split <;> simp_all)
theorem tame_elemT (r tab) : TameH (xElemT r tab) := tameH_const fun _ _ xs hh => by unfold xElemT; split <;> first | rfl | (split <;> simp_all)
theorem tame_rel (r tab) : TameH (xRel r tab) := tameH_const fun _ _ xs hh => by unfold xRel; split <;> first | rfl | (split <;> simp_all)
theorem tame_typeOf (r tab) : TameH (xTypeOf r tab) := tameH_const fun _ _ xs hh => by unfold xTypeOf; split <;> first | rfl | (split <;> simp_all)
theorem tame_asrt (tab) : TameH (xAsrt tab) := tameH_const fun _ _ xs hh => by unfold xAsrt; split <;> first | rfl | (split <;> simp_all)
theorem tame_glob (v) : TameH (xGlob v) := tameH_const fun _ _ xs hh => by unfold xGlob; split <;> first | rfl | simp_all
theorem tame_valueOf (tab) : TameH (xValueOf tab) := tameH_const fun _ _ xs hh => by unfold xValueOf; split <;> first | rfl | (split <;> simp_all)
theorem tame_vtype (r tab) : TameH (xVType r tab) := tameH_const fun _ _ xs hh => by unfold xVType; split <;> first | rfl | (split <;> simp_all)
theorem tame_isNil (tab) : TameH (xIsNil tab) := tameH_const fun _ _ xs hh => by unfold xIsNil; split <;> first | rfl | (split <;> simp_all)
theorem tame_velem (tab) : TameH (xVElem tab) := tameH_const fun _ _ xs hh => by unfold xVElem; split <;> first | rfl | (split <;> simp_all)
theorem tame_vset (tab) : TameH (xVSet tab) := tameH_const fun _ _ xs hh => by unfold xVSet; split <;> first | rfl | (split <;> simp_all)
theorem tame_unwrap (tab) : TameH (xUnwrap tab) := by
  refine ⟨fun c c' hc xs h r hr => ?_, fun c l hm hl xs h r hr => ?_⟩
  · unfold xUnwrap at hr ⊢
    split at hr <;> try (simp at hr; done)
    split at hr <;> try (simp at hr; done)
    split at hr <;> try (simp at hr; done)
    rename_i g hg hx
    simp only [hg, hx]; exact hc _ _ _ _ hr
  · unfold xUnwrap at hr ⊢
    split at hr <;> try (simp at hr; done)
    split at hr <;> try (simp at hr; done)
    split at hr <;> try (simp at hr; done)
    rename_i g hg hx
    obtain ⟨k, hk⟩ := hl _ _ _ _ hr
    exact ⟨k, by simp only [hg, hx]; exact hk⟩

theorem all_nil {α : Type} {p : α → Prop} : ∀ x ∈ ([] : List α), p x := by simp
theorem all_cons {α : Type} {p : α → Prop} {a : α} {l : List α} (h : p a) (t : ∀ x ∈ l, p x) : ∀ x ∈ a :: l, p x := List.forall_mem_cons.2 ⟨h, t⟩

theorem sound_of_tab {P : Program} {EQ : List TypeId} {tab : List (Nat × AFn)} (hm : P.follows .mixedOrders = true) (he : ∀ t ∈ EQ, EqLaw P t) (h : ∀ p ∈ tab, GoodS P EQ p.1 p.2) : Sound P EQ (fun f => tab.lookup f) where
  mixed := hm
  eqs := he
  enter := by
    intro f af hx hE
    have := h _ (lookup_mem hE)
    cases af with
    | code _ => obtain ⟨_, fn, a, b, _⟩ := this; exact ⟨fn, a, b⟩
    | prim _ => exact this.2.1
    | primH _ => exact this.2.1
    | primX _ => exact absurd this.1 (by rw [hx]; simp)
  code := by
    intro f af hx hE
    obtain ⟨_, fn, a, b, c⟩ := h _ (lookup_mem hE)
    exact ⟨fn, a, c⟩
  prim := by
    intro f F hx hE
    exact (h _ (lookup_mem hE)).2.2
  primH := by
    intro f F hx hE
    exact (h _ (lookup_mem hE)).2.2
  primX := by
    intro f F hE
    exact (h _ (lookup_mem hE)).2
  onlyX := by
    intro f F hE
    exact (h _ (lookup_mem hE)).1
  notX := by
    intro f af hE hn
    have := h _ (lookup_mem hE)
    cases af with
    | primX F => exact absurd rfl (hn F)
    | _ => exact this.1
theorem tame_of_tab {tab : List (Nat × AFn)} (h : ∀ p ∈ tab, GoodT p.2) : Tame (fun f => tab.lookup f) where
  prim := fun f F hE => h _ (lookup_mem hE)
  primH := fun f F hE => h _ (lookup_mem hE)
  primX := fun f F hE => h _ (lookup_mem hE)

/-- A struct of whole numbers, bools, strings. -/
def flatF (P : Program) : List Field → Nat → Bool
  | [], _ => true
  | f :: fs, i => (f.name != "_" && f.offset == i && (match P.underlying f.type with | some (.int _) | some .bool | some .string => true | _ => false)) && flatF P fs (i + 1)
def flatB (P : Program) (t : TypeId) : Bool := match P.underlying t with
  | some (.struct fs) => flatF P fs.toList 0 && !P.stoodInHeld t && !P.eqGuardType P.depth t
  | _ => false
theorem eqFields_flat {P : Program} {C : Pub} {xs ys : List AV} {us vs : List Value} (h1 : VRs C xs us) (h2 : VRs C ys vs) (d : Nat) (w : World) :
    ∀ (fs : List Field) (i : Nat) (b : Bool), flatF P fs i = true → (fs.map fun f => tgT P f.type) = (xs.drop i).map AV.tg →
      sameL (xs.drop i) (ys.drop i) = some b → (Op.eqFields (d + 1) us.toArray vs.toArray fs).run P w = .ok b w
  | [], i, b, _, hm, hs => by
    have hx : xs.drop i = [] := by simpa using hm.symm
    rw [hx] at hs
    cases hy : ys.drop i with
    | nil => rw [hy] at hs; simp [sameL] at hs; subst hs; rfl
    | cons y r => rw [hy] at hs; simp [sameL] at hs
  | f :: fs, i, b, hf, hm, hs => by
    simp only [flatF, Bool.and_eq_true, bne_iff_ne, ne_eq, beq_iff_eq] at hf
    obtain ⟨⟨⟨hn, ho⟩, hk⟩, hr⟩ := hf
    cases hx : xs.drop i with
    | nil => rw [hx] at hm; simp at hm
    | cons x xr =>
      rw [hx] at hs hm
      cases hy : ys.drop i with
      | nil => rw [hy] at hs; simp [sameL] at hs
      | cons y yr =>
        rw [hy] at hs
        simp only [sameL] at hs
        split at hs <;> try (simp at hs; done)
        rename_i a1 a2 e1 e2
        simp only [Option.some.injEq] at hs
        have hxi : xs[i]? = some x := by have := congrArg (fun l => l[0]?) hx; simpa using this
        have hyi : ys[i]? = some y := by have := congrArg (fun l => l[0]?) hy; simpa using this
        obtain ⟨u, hu, vu⟩ := h1.get hxi
        obtain ⟨v, hv, vv⟩ := h2.get hyi
        have hxr : xr = xs.drop (i + 1) := by rw [← List.tail_drop, hx]; rfl
        have hyr : yr = ys.drop (i + 1) := by rw [← List.tail_drop, hy]; rfl
        simp only [List.map_cons, List.cons.injEq] at hm
        have ih := eqFields_flat h1 h2 d w fs (i + 1) a2 hr (by rw [← hxr]; exact hm.2) (by rw [← hxr, ← hyr]; exact e2)
        have key : ∀ (hagg : isAggB P f.type = some false), (Op.equalIn (d + 1) f.type u v).run P w = .ok a1 w → (Op.eqFields (d + 1) us.toArray vs.toArray (f :: fs)).run P w = .ok b w := by
          intro hagg heq
          have p1 : (part f.type us.toArray f.offset).run P w = .ok u w := by
            have : us.toArray[f.offset]? = some u := by rw [ho]; simpa using hu
            simp only [part, Sem.run_bind, run_isAggB hagg, Result.andThen_ok, Bool.false_eq_true, if_false, this, Sem.run_pure]
          have p2 : (part f.type vs.toArray f.offset).run P w = .ok v w := by
            have : vs.toArray[f.offset]? = some v := by rw [ho]; simpa using hv
            simp only [part, Sem.run_bind, run_isAggB hagg, Result.andThen_ok, Bool.false_eq_true, if_false, this, Sem.run_pure]
          simp only [Op.eqFields, hn, not_false_eq_true, ne_eq, if_true, Sem.run_bind, p1, p2, heq, Result.andThen_ok]
          subst hs
          cases a1
          · simp
          · simpa using ih
        have hm1 := hm.1
        cases hku : P.underlying f.type with
        | none => simp [hku] at hk
        | some du =>
          simp only [tgT, hku] at hm1
          cases du <;> simp [hku] at hk <;> simp only at hm1
          · cases x <;> simp [AV.tg] at hm1
            cases y <;> simp [AV.same] at e1
            cases vu; cases vv
            subst e1
            exact key (by simp [isAggB, hku]) (run_equalIn_bool' w d f.type _ _ hku)
          · cases x <;> simp [AV.tg] at hm1
            cases y <;> simp [AV.same] at e1
            cases vu; cases vv
            obtain ⟨rfl, e1⟩ := e1
            refine key (by simp [isAggB, hku]) ((run_equalIn_int w d f.type _ _ _ _ hku).trans ?_)
            rw [← e1]; congr 1
          · cases x <;> simp [AV.tg] at hm1
            cases y <;> simp [AV.same] at e1
            cases vu; cases vv
            refine key (by simp [isAggB, hku]) ((run_equalIn_string w d f.type _ _ hku).trans ?_)
            rw [← e1]; congr 1; rw [Bool.eq_iff_iff]; simp [ByteArray.toList_eq]
theorem eqLaw_flat {P : Program} {t : TypeId} (h : flatB P t = true) : EqLaw P t := by
  intro n xs ys us vs C w b x y hsh h1 h2 hs
  unfold flatB at h
  split at h <;> try (simp at h; done)
  rename_i fs hu
  simp only [Bool.and_eq_true, Bool.not_eq_true'] at h
  obtain ⟨⟨hf, hst⟩, hg⟩ := h
  have hfo : P.fieldsOf t = fs := by simp [Program.fieldsOf, hu]
  simp only [shapeB, hu, Option.some.injEq] at hsh
  have hrun : (Op.equalIn 10000 t (.agg us.toArray) (.agg vs.toArray)).run P w = .ok b w := by
    rw [run_equalIn_struct w 9999 t _ _ (by rw [hfo]; exact hu) hst, hfo]
    exact eqFields_flat h1 h2 9998 w fs.toList 0 b hf (by rw [List.drop_zero]; exact hsh) (by simpa using hs)
  cases n
  · simp only [Bool.false_eq_true, if_false, Sem.run_bind, run_eqGuard_agg w _ t x y _ _ hg, Result.andThen_ok, run_eql_struct, hrun]
  · simp only [if_true, Sem.run_bind, run_eqGuard_agg w _ t x y _ _ hg, Result.andThen_ok, run_neq_struct, hrun]

theorem lim_from {α : Type} {c : Nat → Option α} {o : Option α} (n : Nat) (h : ∀ k, n ≤ k → c k = o) : lim c = o := by
  cases o with
  | some r => exact lim_some n h
  | none =>
    cases hl : lim c with
    | none => rfl
    | some r =>
      obtain ⟨k, hk⟩ := of_lim hl
      have h1 := hk (max n k) (Nat.le_max_right _ _)
      rw [h (max n k) (Nat.le_max_left _ _)] at h1; cases h1
theorem lim_succ {α : Type} {c d : Nat → Option α} (h : ∀ k, c (k + 1) = d k) : lim c = lim d := by
  cases hd : lim d with
  | some r =>
    obtain ⟨k, hk⟩ := of_lim hd
    refine lim_some (k + 1) fun k' hk' => ?_
    obtain ⟨m, rfl⟩ : ∃ m, k' = m + 1 := ⟨k' - 1, by omega⟩
    rw [h]; exact hk m (by omega)
  | none =>
    cases hc : lim c with
    | none => rfl
    | some r =>
      obtain ⟨k, hk⟩ := of_lim hc
      have : lim d = some r := lim_some k fun k' hk' => by rw [← h]; exact hk _ (by omega)
      rw [hd] at this; cases this
theorem evT_xconst {E : FuncId → Option AFn} {f : FuncId} {F} (hE : E f = some (.primX F)) (hc : ∀ c c' xs h, F c xs h = F c' xs h) (xs : List AV) (h : Hp) : evT E f xs h = F (evT E) xs h := by
  refine lim_from 1 fun k hk => ?_
  obtain ⟨m, rfl⟩ : ∃ m, k = m + 1 := ⟨k - 1, by omega⟩
  rw [evCall, hE]; exact hc _ _ _ _
theorem evT_xunwrap {E : FuncId → Option AFn} {f : FuncId} {tab} (hE : E f = some (.primX (xUnwrap tab))) (xs : List AV) (h : Hp) : evT E f xs h = xUnwrap tab (evT E) xs h := by
  have e1 : evT E f xs h = lim fun k => xUnwrap tab (evCall E k) xs h := lim_succ fun k => by rw [evCall, hE]
  rw [e1]
  unfold xUnwrap
  split
  · split
    · split
      · exact lim_from 0 fun k _ => rfl
      · rfl
    · exact lim_from 0 fun k _ => rfl
  · exact lim_from 0 fun k _ => rfl
theorem Hp.cut_set_self (h : Hp) (id : Nat) (cs : List AV) : (h.set id cs).cut h.nx = h.set id cs := by
  rw [← Hp.nx_set h id cs]; exact Hp.cut_self _
theorem share_of {x : AV} (h : x.share1 = x) (ht : x.isTup = false) : x.share = x := by
  cases x <;> first | exact h | simp [AV.isTup] at ht

/-- A closed call, by running it. -/
theorem evT_run {E : FuncId → Option AFn} (T : Tame E) {f : FuncId} {xs : List AV} {h : Hp} {r : AV × Hp} (k : Nat) (hk : evCall E k f xs h = some r) : evT E f xs h = some r := evT_of T k hk
end Go.Vm
