/- The operations of errors.As that lie outside Go's text. -/
import Derived.Test.YtacifbbmfkampaaDoorVmM
namespace Go.Vm
open Go.RowKit
set_option linter.unusedVariables false
set_option linter.unusedSimpArgs false
set_option linter.unusedSectionVars false
variable [Glob]

section
variable {P : Program} {n0 : Nat} {C : Pub} {φ : Phi} {w : World} {h h' : Hp} {vals : List AV} {vs : List Value} {r : AV} {Bs : List Nat}

/-- A new published block behind a pointer, in a Value of reflectlite's. -/
theorem FinH.boxV (hw : Wd C w) (hr : HR C φ w h) {x : AV} {v : Value} (hv : VT C φ x v) (hl : x.leaf = true) (t e : Nat) (f : Int) :
    FinH n0 C φ w h Bs (.agg [.hdl t, .imm [x.share1] 0, .int .u64 f]) (.agg #[.pointer (some ⟨Glob.hb, t, none⟩), .pointer (some ⟨w.heap.size, 0, none⟩), .int .u64 f]) (w.alloc (.cells #[v] e)) h := by
  obtain ⟨hext, hmono⟩ := ext_alloc (Bs := Bs) hw #[v] e
  have hvt : VT (fun b o => if b = w.heap.size then #[v][o]? else C b o) φ (.agg [.hdl t, .imm [x.share1] 0, .int .u64 f]) (.agg #[.pointer (some ⟨Glob.hb, t, none⟩), .pointer (some ⟨w.heap.size, 0, none⟩), .int .u64 f]) := by
    refine VT.agg_mk (vs := [_, _, _]) (VTs.cons (.pure (.hdl t)) (VTs.cons ?_ (VTs.cons (.pure (.int _ _)) VTs.nil)))
    refine VT.imm (C := fun b o => if b = w.heap.size then #[v][o]? else C b o) [x.share1] 0 w.heap.size 0 (fun _ => v) (fun j c hc => ?_) (fun j c hc => ?_)
    · cases j with
      | zero => simp at hc; subst hc; exact ⟨AV.leaf_share1 hl, by simp⟩
      | succ j => simp at hc
    · cases j with
      | zero => simp at hc; subst hc; exact hv.share1.mono hmono (fun _ _ h => h)
      | succ j => simp at hc
  refine ⟨_, φ, hvt, hext.more (fun b hb => List.mem_append_left _ hb), ?_, fun _ _ => rfl, fun id b hn hb => ?_, Nat.le_refl _, ownP_share _ _ n0 (.agg _) _, ?_, ?_⟩
  · have := hr.ext (ext_alloc (Bs := []) hw #[v] e).1 (by simp)
    exact this
  · rw [(hr.dom id hn).1] at hb; cases hb
  · have : blks (.agg [.hdl t, .imm [x.share1] 0, .int .u64 f]) (.agg #[.pointer (some ⟨Glob.hb, t, none⟩), .pointer (some ⟨w.heap.size, 0, none⟩), .int .u64 f]) = [] := blks_share (.agg _) _
    rw [this]; simp
  · have : blks (.agg [.hdl t, .imm [x.share1] 0, .int .u64 f]) (.agg #[.pointer (some ⟨Glob.hb, t, none⟩), .pointer (some ⟨w.heap.size, 0, none⟩), .int .u64 f]) = [] := blks_share (.agg _) _
    rw [this]; simp

/-- What operation a number is. -/
theorem xo_ext {g : Nat} (hg : g < 1000000) {o : Oper} {xs : List Operand} (hx : xoG (1000000 + g) o = some xs) : ∃ args ats, o.op = .call { callee := .value (.func g), args, argTypes := ats } ∧ xs = args.toList := by
  unfold xoG at hx
  split at hx
  · rename_i g' args ats heq
    split at hx
    · rename_i hc
      obtain ⟨h1, h2⟩ := hc
      have : @Eq Nat g' g := by omega
      subst this
      exact ⟨args, ats, heq, by simpa using hx.symm⟩
    · cases hx
  · split at hx
    · rename_i hc; obtain ⟨h1, h2, h3⟩ := hc; omega
    · cases hx
  · split at hx
    · rename_i hc; obtain ⟨h1, h2⟩ := hc; omega
    · cases hx
  · split at hx
    · rename_i hc; obtain ⟨h1, h2⟩ := hc; omega
    · cases hx
  · cases hx
theorem xo_inv {i : Nat} {m : String} (hi : xnames[i]? = some m) {o : Oper} {xs : List Operand} (hx : xoG (2000000 + i) o = some xs) : ∃ rv args ats, o.op = .call { callee := .invoke rv m, args, argTypes := ats } ∧ xs = rv :: args.toList := by
  have hi9 : i < 9 := by have := lt_of_get hi; simpa [xnames] using this
  unfold xoG at hx
  split at hx
  · split at hx
    · rename_i hc; obtain ⟨h1, h2⟩ := hc; omega
    · cases hx
  · rename_i rv m' args ats heq
    split at hx
    · rename_i hc
      obtain ⟨_, _, h3⟩ := hc
      have e : (2000000 + i - 2000000 : Nat) = i := by omega
      rw [e, hi] at h3
      cases h3
      exact ⟨rv, args, ats, heq, by simpa using hx.symm⟩
    · cases hx
  · split at hx
    · rename_i hc; obtain ⟨h1, h2⟩ := hc; omega
    · cases hx
  · split at hx
    · rename_i hc; obtain ⟨h1, h2⟩ := hc; omega
    · cases hx
  · cases hx
theorem xo_asrt {t : Nat} {ok : Bool} (ht : t < 500000) {o : Oper} {xs : List Operand} (hx : xoG (3000000 + 2 * t + ok.toNat) o = some xs) : ∃ x xt, o.op = .typeAssert x xt t ok ∧ xs = [x] := by
  have hb : ok.toNat ≤ 1 := Bool.toNat_le ok
  unfold xoG at hx
  split at hx
  · split at hx
    · rename_i hc; obtain ⟨h1, h2⟩ := hc; omega
    · cases hx
  · split at hx
    · rename_i hc; obtain ⟨h1, h2, h3⟩ := hc; omega
    · cases hx
  · rename_i x xt t' ok' heq
    split at hx
    · rename_i hc
      obtain ⟨h1, h2⟩ := hc
      have hb' : ok'.toNat ≤ 1 := Bool.toNat_le ok'
      have e1 : @Eq Nat t' t := by omega
      have e2 : ok'.toNat = ok.toNat := by omega
      have e3 : ok' = ok := by cases ok <;> cases ok' <;> simp_all
      subst e1; subst e3
      exact ⟨x, xt, heq, by simpa using hx.symm⟩
    · cases hx
  · split at hx
    · rename_i hc; obtain ⟨h1, h2⟩ := hc; omega
    · cases hx
  · cases hx
theorem xo_glob {g t : Nat} (ht : t < 10000) {o : Oper} {xs : List Operand} (hx : xoG (4000000 + (g * 10000 + t)) o = some xs) : o.op = .load t (.global g) ∧ xs = [] := by
  unfold xoG at hx
  split at hx
  · split at hx
    · rename_i hc; obtain ⟨h1, h2⟩ := hc; omega
    · cases hx
  · split at hx
    · rename_i hc; obtain ⟨h1, h2, h3⟩ := hc; omega
    · cases hx
  · rename_i ok' _
    split at hx
    · rename_i hc
      obtain ⟨h1, h2⟩ := hc
      have hb' := Bool.toNat_le ok'
      omega
    · cases hx
  · rename_i t' g' heq
    split at hx
    · rename_i hc
      obtain ⟨h1, h2⟩ := hc
      have e1 : @Eq Nat g' g := by omega
      have e2 : @Eq Nat t' t := by omega
      subst e1; subst e2
      exact ⟨heq, by simpa using hx.symm⟩
    · cases hx
  · cases hx

/-- The law of an operation given apart. -/
def XLaw (P : Program) (f : Nat) (F : CallH → List AV → Hp → Option (AV × Hp)) : Prop :=
  ∀ call, CallingH P call → ∀ o xs, xoG f o = some xs → ∀ (n0 : Nat) (C : Pub) (φ : Phi) (w : World) h vals r h' (ρ : Operand → Value), (∀ v, ρ (.const v) = v) → (∀ f, ρ (.func f) = .func (.func f) #[] #[]) → (∀ g, ρ (.global g) = .pointer (some ⟨g, 0, none⟩)) →
    ArgsH n0 C φ w h vals (xs.map ρ) → F call vals h = some (r, h') → Res P ((execOp ρ o).run P w) (fun v w' => FinH n0 C φ w h (blksL vals (xs.map ρ)) r v w' h')

theorem exec_inv {ρ : Operand → Value} {o : Oper} {rv : Operand} {m : String} {args : Array Operand} {ats : Array TypeId} (heq : o.op = .call { callee := .invoke rv m, args, argTypes := ats }) :
    (execOp ρ o).run P w = (callMethod (ρ rv) m (args.map ρ)).run P w := by
  have h1 : (#[ρ rv] ++ args.map ρ)[0]? = some (ρ rv) := by rw [Array.getElem?_append_left (show 0 < (#[ρ rv] : Array Value).size from Nat.zero_lt_one)]; rfl
  have h2 : (#[ρ rv] ++ args.map ρ).extract 1 (#[ρ rv] ++ args.map ρ).size = args.map ρ := by
    apply Array.ext'; simp [List.take_of_length_le]
  unfold execOp
  rw [heq]
  simp only [resolve, Sem.run_bind, Sem.run_pure, Result.andThen_ok, invoke, h1, h2]
theorem exec_ext {ρ : Operand → Value} (hρf : ∀ f, ρ (.func f) = .func (.func f) #[] #[]) {o : Oper} {g : FuncId} {args : Array Operand} {ats : Array TypeId} (heq : o.op = .call { callee := .value (.func g), args, argTypes := ats }) :
    (execOp ρ o).run P w = (callFunc g (args.map ρ)).run P w := by
  simp only [execOp, heq, hρf, resolve, Deferred.ofValue, invoke, Sem.run_bind, Sem.run_pure, Result.andThen_ok]
  simp

abbrev hV (t : Nat) : Value := .pointer (some ⟨Glob.hb, t, none⟩)
theorem VT.hdl_inv {t : Nat} {v} (h : VT C φ (.hdl t) v) : v = hV t := by
  cases h with | pure h => cases h; rfl
theorem VT.int_inv {k n v} (h : VT C φ (.int k n) v) : v = .int k n := by
  cases h with | pure h => cases h; rfl
theorem VT.ifc_inv {t x v} (h : VT C φ (.ifc t x) v) : ∃ u, v = .iface t u ∧ VT C φ x u := by
  cases h with
  | pure h => cases h with | ifc _ _ u h => exact ⟨u, rfl, .pure h⟩
  | ifc _ _ u h => exact ⟨u, rfl, h⟩
theorem VT.ty_inv {r t v} (h : VT C φ (.ifc r (.agg [.hdl t])) v) : v = .iface r (.agg #[hV t]) := by
  obtain ⟨u, rfl, h1⟩ := h.ifc_inv
  obtain ⟨vs, rfl, h2⟩ := h1.agg_inv
  obtain ⟨v, vs', rfl, h3, h4⟩ := h2.cons_inv
  cases h4.nil_inv
  rw [h3.hdl_inv]
theorem vt_ty (r t : Nat) : VT C φ (.ifc r (.agg [.hdl t])) (.iface r (.agg #[hV t])) :=
  .ifc _ _ _ (VT.agg_mk (vs := [_]) (VTs.cons (.pure (.hdl t)) .nil))
theorem VT.val_inv {t : Nat} {p : AV} {f : Int} {v} (h : VT C φ (.agg [.hdl t, p, .int .u64 f]) v) : ∃ u, v = .agg #[hV t, u, .int .u64 f] ∧ VT C φ p u := by
  obtain ⟨vs, rfl, h2⟩ := h.agg_inv
  obtain ⟨v, vs', rfl, h3, h4⟩ := h2.cons_inv
  obtain ⟨u, vs', rfl, h5, h6⟩ := h4.cons_inv
  obtain ⟨q, vs', rfl, h7, h8⟩ := h6.cons_inv
  cases h8.nil_inv
  rw [h3.hdl_inv, h7.int_inv]
  exact ⟨u, rfl, h5⟩

theorem lookup_mem {β : Type} : ∀ {tab : List (Nat × β)} {f : Nat} {b : β}, tab.lookup f = some b → (f, b) ∈ tab
  | [], f, b, h => by simp at h
  | (g, c) :: tab, f, b, h => by
    simp only [List.lookup] at h
    split at h
    · rename_i he; simp at he h; subst he; subst h; exact List.mem_cons_self
    · exact List.mem_cons_of_mem _ (lookup_mem h)
theorem lookup_mem2 {α β : Type} [BEq α] [LawfulBEq α] : ∀ {tab : List (α × β)} {f : α} {b : β}, tab.lookup f = some b → (f, b) ∈ tab
  | [], f, b, h => by simp at h
  | (g, c) :: tab, f, b, h => by
    simp only [List.lookup] at h
    split at h
    · rename_i he; simp at he h; subst he; subst h; exact List.mem_cons_self
    · exact List.mem_cons_of_mem _ (lookup_mem2 h)
-- ------------------------------------------------------------ the types' answers
def xKind (rty : Nat) (tab : List (Nat × Int)) : CallH → List AV → Hp → Option (AV × Hp)
  | _, [.ifc r (.agg [.hdl t])], h => if r = rty then (match tab.lookup t with | some k => some (.int .u8 k, h) | none => none) else none
  | _, _, _ => none
def xElemT (rty : Nat) (tab : List (Nat × Nat)) : CallH → List AV → Hp → Option (AV × Hp)
  | _, [.ifc r (.agg [.hdl t])], h => if r = rty then (match tab.lookup t with | some e => some (.ifc rty (.agg [.hdl e]), h) | none => none) else none
  | _, _, _ => none
def xRel (rty : Nat) (tab : List ((Nat × Nat) × Bool)) : CallH → List AV → Hp → Option (AV × Hp)
  | _, [.ifc r (.agg [.hdl t]), .ifc r' (.agg [.hdl u])], h => if r = rty ∧ r' = rty then (match tab.lookup (t, u) with | some b => some (.bool b, h) | none => none) else none
  | _, _, _ => none
def xTypeOf (rty : Nat) (ts : List Nat) : CallH → List AV → Hp → Option (AV × Hp)
  | _, [.ifc t _], h => if t ∈ ts then some (.ifc rty (.agg [.hdl t]), h) else none
  | _, _, _ => none
def xAsrt (tab : List (Nat × Bool)) : CallH → List AV → Hp → Option (AV × Hp)
  | _, [.ifc t x], h => (match tab.lookup t with | some true => some (.tup [.ifc t x, .bool true], h) | some false => some (.tup [.nili, .bool false], h) | none => none)
  | _, _, _ => none
def xGlob (v : AV) : CallH → List AV → Hp → Option (AV × Hp)
  | _, [], h => some (v, h)
  | _, _, _ => none
def xUnwrap (tab : List (Nat × FuncId)) : CallH → List AV → Hp → Option (AV × Hp)
  | call, [.ifc t x], h => (match tab.lookup t with | some g => if isX g then none else call g [x.share] h | none => none)
  | _, _, _ => none
def xValueOf (tab : List (Nat × Int)) : CallH → List AV → Hp → Option (AV × Hp)
  | _, [.ifc t x], h => if x.leaf then (match tab.lookup t with | some f => some (.agg [.hdl t, .imm [x.share1] 0, .int .u64 f], h) | none => none) else none
  | _, _, _ => none
def xVType (rty : Nat) (tab : List (Nat × Int)) : CallH → List AV → Hp → Option (AV × Hp)
  | _, [.agg [.hdl t, .imm _ _, .int .u64 f]], h => if tab.lookup t = some f then some (.ifc rty (.agg [.hdl t]), h) else none
  | _, _, _ => none
def xIsNil (tab : List (Nat × Int)) : CallH → List AV → Hp → Option (AV × Hp)
  | _, [.agg [.hdl t, .imm [.ref _ _] 0, .int .u64 f]], h => if tab.lookup t = some f then some (.bool false, h) else none
  | _, _, _ => none
def xVElem (tab : List (Nat × Int × Nat × Int)) : CallH → List AV → Hp → Option (AV × Hp)
  | _, [.agg [.hdl t, .imm [.ref i o] 0, .int .u64 f]], h => (match tab.lookup t with | some (f', te, f2) => if f = f' then some (.agg [.hdl te, .ref i o, .int .u64 f2], h) else none | none => none)
  | _, _, _ => none
def xVSet (tab : List (Nat × Int × Int)) : CallH → List AV → Hp → Option (AV × Hp)
  | _, [.agg [.hdl t, .ref i o, .int .u64 f2], .agg [.hdl t', .imm [x] 0, .int .u64 f]], h => (match tab.lookup t with | some (g2, g) => if t = t' ∧ f2 = g2 ∧ f = g ∧ x.cells.length = 1 then hSt 1 h [.ref i o, x.share] else none | none => none)
  | _, _, _ => none

theorem args_nil {ρ : Operand → Value} {args : Array Operand} (h : args.toList.map ρ = []) : args.map ρ = #[] := by
  apply Array.ext'; simpa using h
theorem args_list {ρ : Operand → Value} {args : Array Operand} {l : List Value} (h : args.toList.map ρ = l) : args.map ρ = l.toArray := by
  apply Array.ext'; simpa using h

theorem law_kind {rty : Nat} {tab : List (Nat × Int)} (hf : ∀ q ∈ tab, ∀ w, (callMethod (.iface rty (.agg #[hV q.1])) "Kind" #[]).run P w = .ok (.value (.int .u8 q.2)) w) : XLaw P 2000000 (xKind rty tab) := by
  intro call hc o xs ho n0 C φ w h vals r h' ρ hρ hρf hρg ha hr
  obtain ⟨rv, args, ats, heq, rfl⟩ := xo_inv (i := 0) rfl ho
  unfold xKind at hr
  split at hr <;> try (simp at hr; done)
  rename_i r0 t
  split at hr <;> try (simp at hr; done)
  rename_i hr0; subst hr0
  split at hr <;> simp at hr
  rename_i k hk
  obtain ⟨rfl, rfl⟩ := hr
  obtain ⟨v, hv, hvt⟩ := ha.one
  simp only [List.map_cons, List.cons.injEq] at hv
  rw [exec_inv heq, hv.1, hvt.ty_inv, args_nil hv.2, hf _ (lookup_mem hk)]
  exact FinH.same ha.wd ha.hr (.pure (.int _ _)) rfl
theorem law_elemT {rty : Nat} {tab : List (Nat × Nat)} (hf : ∀ q ∈ tab, ∀ w, (callMethod (.iface rty (.agg #[hV q.1])) "Elem" #[]).run P w = .ok (.value (.iface rty (.agg #[hV q.2]))) w) : XLaw P 2000001 (xElemT rty tab) := by
  intro call hc o xs ho n0 C φ w h vals r h' ρ hρ hρf hρg ha hr
  obtain ⟨rv, args, ats, heq, rfl⟩ := xo_inv (i := 1) rfl ho
  unfold xElemT at hr
  split at hr <;> try (simp at hr; done)
  rename_i r0 t
  split at hr <;> try (simp at hr; done)
  rename_i hr0; subst hr0
  split at hr <;> simp at hr
  rename_i k hk
  obtain ⟨rfl, rfl⟩ := hr
  obtain ⟨v, hv, hvt⟩ := ha.one
  simp only [List.map_cons, List.cons.injEq] at hv
  rw [exec_inv heq, hv.1, hvt.ty_inv, args_nil hv.2, hf _ (lookup_mem hk)]
  exact FinH.same ha.wd ha.hr (vt_ty _ _) rfl
theorem law_rel {rty i : Nat} {m : String} (hi : xnames[i]? = some m) {tab : List ((Nat × Nat) × Bool)} (hf : ∀ q ∈ tab, ∀ w, (callMethod (.iface rty (.agg #[hV q.1.1])) m #[.iface rty (.agg #[hV q.1.2])]).run P w = .ok (.value (.bool q.2)) w) : XLaw P (2000000 + i) (xRel rty tab) := by
  intro call hc o xs ho n0 C φ w h vals r h' ρ hρ hρf hρg ha hr
  obtain ⟨rv, args, ats, heq, rfl⟩ := xo_inv hi ho
  unfold xRel at hr
  split at hr <;> try (simp at hr; done)
  rename_i r0 t r1 u
  split at hr <;> try (simp at hr; done)
  rename_i hr0; obtain ⟨e1, e2⟩ := hr0; subst e1; subst e2
  split at hr <;> simp at hr
  rename_i k hk
  obtain ⟨rfl, rfl⟩ := hr
  obtain ⟨v, v2, hv, hvt, hvt2⟩ := ha.two
  simp only [List.map_cons, List.cons.injEq] at hv
  rw [exec_inv heq, hv.1, hvt.ty_inv, args_list hv.2, hvt2.ty_inv, hf _ (lookup_mem2 hk)]
  exact FinH.same ha.wd ha.hr (.pure (.bool _)) rfl
theorem law_typeOf {rty : Nat} {g : Nat} (hg : g < 1000000) {ts : List Nat} (hf : ∀ t, t ∈ ts → ∀ v w, (callFunc g #[.iface t v]).run P w = .ok (.value (.iface rty (.agg #[hV t]))) w) : XLaw P (1000000 + g) (xTypeOf rty ts) := by
  intro call hc o xs ho n0 C φ w h vals r h' ρ hρ hρf hρg ha hr
  obtain ⟨args, ats, heq, rfl⟩ := xo_ext hg ho
  unfold xTypeOf at hr
  split at hr <;> try (simp at hr; done)
  rename_i t x
  split at hr <;> simp at hr
  rename_i ht
  obtain ⟨rfl, rfl⟩ := hr
  obtain ⟨v, hv, hvt⟩ := ha.one
  obtain ⟨u, rfl, hu⟩ := hvt.ifc_inv
  rw [exec_ext hρf heq, args_list hv, hf t ht]
  exact FinH.same ha.wd ha.hr (vt_ty _ _) rfl
theorem law_asrt {T : Nat} (hT : T < 500000) {tab : List (Nat × Bool)} (hf : ∀ q ∈ tab, ∀ xt v w, (Instr.typeAssert (.iface q.1 v) xt T true).run P w = .ok (if q.2 then .tuple #[.iface q.1 v, .bool true] else .tuple #[.nilIface, .bool false]) w) :
    XLaw P (3000000 + 2 * T + 1) (xAsrt tab) := by
  intro call hc o xs ho n0 C φ w h vals r h' ρ hρ hρf hρg ha hr
  obtain ⟨x, xt, heq, rfl⟩ := xo_asrt (ok := true) hT ho
  unfold xAsrt at hr
  split at hr <;> try (simp at hr; done)
  rename_i t y
  obtain ⟨v, hv, hvt⟩ := ha.one
  obtain ⟨u, rfl, hu⟩ := hvt.ifc_inv
  simp only [List.map_cons, List.map_nil, List.cons.injEq, and_true] at hv
  have hrun : (execOp ρ o).run P w = ((Instr.typeAssert (.iface t u) xt T true).run P w).andThen fun v w' => .ok (.value v) w' := by
    simp only [execOp, heq, hv, Sem.run_bind, Sem.run_pure]
  split at hr <;> simp at hr
  · rename_i hk
    obtain ⟨rfl, rfl⟩ := hr
    rw [hrun, hf _ (lookup_mem hk)]
    exact FinH.same ha.wd ha.hr (VT.tup_mk (vs := [_, _]) (VTs.cons (.ifc _ _ _ hu) (VTs.cons (.pure (.bool _)) .nil))) rfl
  · rename_i hk
    obtain ⟨rfl, rfl⟩ := hr
    rw [hrun, hf _ (lookup_mem hk)]
    exact FinH.same ha.wd ha.hr (VT.tup_mk (vs := [_, _]) (VTs.cons (.pure .nili) (VTs.cons (.pure (.bool _)) .nil))) rfl
theorem law_glob {g t : Nat} (ht : t < 10000) {rty e : Nat} (hG : Glob.g g 0 = some (.iface rty (.agg #[hV e]))) (hA : isAggB P t = some false) : XLaw P (4000000 + (g * 10000 + t)) (xGlob (.ifc rty (.agg [.hdl e]))) := by
  intro call hc o xs ho n0 C φ w h vals r h' ρ hρ hρf hρg ha hr
  obtain ⟨heq, rfl⟩ := xo_glob ht ho
  unfold xGlob at hr
  split at hr <;> simp at hr
  obtain ⟨rfl, rfl⟩ := hr
  have hcell := ha.wd _ _ _ (ha.gl _ _ _ hG)
  have hrun : (execOp ρ o).run P w = .ok (.value (.iface rty (.agg #[hV e]))) w := by
    simp only [execOp, heq, hρg, Sem.run_bind, Sem.run_pure, Result.andThen_ok, Instr.loadAt, Instr.sureAddr, loadVar, run_isAggB hA, Bool.false_eq_true, if_false, run_load, hcell]
  rw [hrun]
  exact FinH.same ha.wd ha.hr (vt_ty _ _) rfl
theorem law_unwrap {tab : List (Nat × FuncId)} (hf : ∀ q ∈ tab, ∀ v w, (callMethod (.iface q.1 v) "Unwrap" #[]).run P w = (callFunc q.2 #[v]).run P w) : XLaw P 2000004 (xUnwrap tab) := by
  intro call hc o xs ho n0 C φ w h vals r h' ρ hρ hρf hρg ha hr
  obtain ⟨rv, args, ats, heq, rfl⟩ := xo_inv (i := 4) rfl ho
  unfold xUnwrap at hr
  split at hr <;> try (simp at hr; done)
  rename_i t x
  split at hr <;> try (simp at hr; done)
  rename_i g hk
  split at hr <;> try (simp at hr; done)
  rename_i hx
  obtain ⟨v, hv, hvt⟩ := ha.one
  obtain ⟨u, rfl, hu⟩ := hvt.ifc_inv
  simp only [List.map_cons, List.cons.injEq] at hv
  rw [exec_inv heq, hv.1, args_nil hv.2, hf _ (lookup_mem hk)]
  exact res_callH hc (by simpa using hx) (xs := [x]) hr ha.wd ha.gl ha.hr ha.base (VTs.cons hu .nil) _ rfl

theorem run_unpack {t : TypeId} {u : Value} (hu : u.oneCell' = true) {f : Int} (hmk : ∀ a w, (Extern.ReflectliteValue.mk t a 0).run P w = .ok (.agg #[hV t, .pointer (some a), .int .u64 f]) w) :
    (Extern.ReflectliteValue.unpack (.iface t u)).run P w = .ok (.agg #[hV t, .pointer (some ⟨w.heap.size, 0, none⟩), .int .u64 f]) (w.alloc (.cells #[u] t)) := by
  have hcu : u.cells = #[u] := by cases u <;> first | rfl | simp [Value.oneCell'] at hu
  simp only [Extern.ReflectliteValue.unpack, Sem.run_bind, newVar, newRow, hcu]
  have : (newObj (.cells #[u] t)).run P w = .ok w.heap.size (w.alloc (.cells #[u] t)) := by simp
  simp only [this, Result.andThen_ok, Sem.run_pure, hmk]
theorem law_valueOf {g : Nat} (hg : g < 1000000) {tab : List (Nat × Int)} (hx : ∀ v w, (callFunc g #[v]).run P w = ((Extern.ReflectliteValue.unpack v).run P w).andThen fun v w' => .ok (.value v) w')
    (hmk : ∀ q ∈ tab, ∀ a w, (Extern.ReflectliteValue.mk q.1 a 0).run P w = .ok (.agg #[hV q.1, .pointer (some a), .int .u64 q.2]) w) : XLaw P (1000000 + g) (xValueOf tab) := by
  intro call hc o xs ho n0 C φ w h vals r h' ρ hρ hρf hρg ha hr
  obtain ⟨args, ats, heq, rfl⟩ := xo_ext hg ho
  unfold xValueOf at hr
  split at hr <;> try (simp at hr; done)
  rename_i t x
  split at hr <;> try (simp at hr; done)
  rename_i hl
  split at hr <;> simp at hr
  rename_i f hf
  obtain ⟨rfl, rfl⟩ := hr
  obtain ⟨v, hv, hvt⟩ := ha.one
  obtain ⟨u, rfl, hu⟩ := hvt.ifc_inv
  rw [exec_ext hρf heq, args_list hv, hx, run_unpack (hu.oneCell hl) (hmk _ (lookup_mem hf))]
  exact FinH.boxV ha.wd ha.hr hu hl t t f
theorem law_vtype {rty : Nat} {g : Nat} (hg : g < 1000000) {tab : List (Nat × Int)} (hf : ∀ q ∈ tab, ∀ a w, (callFunc g #[.agg #[hV q.1, .pointer (some a), .int .u64 q.2]]).run P w = .ok (.value (.iface rty (.agg #[hV q.1]))) w) : XLaw P (1000000 + g) (xVType rty tab) := by
  intro call hc o xs ho n0 C φ w h vals r h' ρ hρ hρf hρg ha hr
  obtain ⟨args, ats, heq, rfl⟩ := xo_ext hg ho
  unfold xVType at hr
  split at hr <;> try (simp at hr; done)
  rename_i t cs off f
  split at hr <;> simp at hr
  rename_i hk
  obtain ⟨rfl, rfl⟩ := hr
  obtain ⟨v, hv, hvt⟩ := ha.one
  obtain ⟨u, rfl, hu⟩ := hvt.val_inv
  obtain ⟨b, q, cv, rfl, _, _⟩ := hu.imm_inv
  rw [exec_ext hρf heq, args_list hv, hf _ (lookup_mem hk)]
  exact FinH.same ha.wd ha.hr (vt_ty _ _) rfl

theorem VT.cellref {i p off : Nat} {v : Value} (hw : Wd C w) (h : VT C φ (.imm [.ref i p] 0) v) : ∃ a b, v = .pointer (some a) ∧ φ i = some b ∧ w.cell? a = some (.pointer (some ⟨b, p, none⟩)) := by
  obtain ⟨b, q, cv, rfl, a1, a2⟩ := h.imm_inv
  obtain ⟨b2, e, hφ⟩ := (a2 0 _ rfl).ref_inv
  refine ⟨_, b2, rfl, hφ, ?_⟩
  have := hw _ _ _ (a1 0 _ rfl).2
  rw [e] at this; exact this
theorem law_isNil {g : Nat} (hg : g < 1000000) {tab : List (Nat × Int)} (hx : ∀ v w, (callFunc g #[v]).run P w = ((Extern.ReflectliteValue.method (Extern.ReflectliteValue.valueError "reflectlite.Value.IsNil" 0) Extern.ReflectliteValue.isNil #[v]).run P w).andThen fun v w' => .ok (.value v) w')
    (hp : ∀ q ∈ tab, isAggB P q.1 = some false ∧ q.2.toNat % 32 = 22 ∧ ∀ a w, (Extern.ReflectliteValue.parts (.agg #[hV q.1, .pointer (some a), .int .u64 q.2])).run P w = .ok (some (q.1, a, q.2.toNat)) w) : XLaw P (1000000 + g) (xIsNil tab) := by
  intro call hc o xs ho n0 C φ w h vals r h' ρ hρ hρf hρg ha hr
  obtain ⟨args, ats, heq, rfl⟩ := xo_ext hg ho
  unfold xIsNil at hr
  split at hr <;> try (simp at hr; done)
  rename_i t i p f
  split at hr <;> simp at hr
  rename_i hk
  obtain ⟨rfl, rfl⟩ := hr
  obtain ⟨v, hv, hvt⟩ := ha.one
  obtain ⟨u, rfl, hu⟩ := hvt.val_inv
  obtain ⟨a, b, rfl, hφ, hcell⟩ := VT.cellref (off := 0) ha.wd hu
  obtain ⟨hA, h22, hparts⟩ := hp _ (lookup_mem hk)
  rw [exec_ext hρf heq, args_list hv, hx]
  have hrun : (Extern.ReflectliteValue.method (Extern.ReflectliteValue.valueError "reflectlite.Value.IsNil" 0) Extern.ReflectliteValue.isNil #[.agg #[hV t, .pointer (some a), .int .u64 f]]).run P w = .ok (.bool false) w := by
    show (do match ← Extern.ReflectliteValue.parts (.agg #[hV t, .pointer (some a), .int .u64 f]) with | none => Extern.ReflectliteValue.valueError "reflectlite.Value.IsNil" 0 | some (t, a, fl) => Extern.ReflectliteValue.isNil t a fl (fl % 32) : Sem Value).run P w = _
    simp only [Sem.run_bind, hparts, Result.andThen_ok, h22, Extern.ReflectliteValue.isNil, show ([18, 19, 20, 21, 22, 23, 26].contains 22 : Bool) = true from rfl, Bool.not_true, Bool.false_eq_true, if_false, loadVar, run_isAggB hA, run_load, hcell, Sem.run_pure]
  rw [hrun]
  exact FinH.same ha.wd ha.hr (.pure (.bool _)) rfl
theorem law_velem {g : Nat} (hg : g < 1000000) {tab : List (Nat × Int × Nat × Int)} (hx : ∀ v w, (callFunc g #[v]).run P w = ((Extern.ReflectliteValue.method (Extern.ReflectliteValue.valueError "reflectlite.Value.Elem" 0) Extern.ReflectliteValue.elem #[v]).run P w).andThen fun v w' => .ok (.value v) w')
    (hp : ∀ q ∈ tab, isAggB P q.1 = some false ∧ q.2.1.toNat % 32 = 22 ∧ (∀ a w, (Extern.ReflectliteValue.parts (.agg #[hV q.1, .pointer (some a), .int .u64 q.2.1])).run P w = .ok (some (q.1, a, q.2.1.toNat)) w) ∧
      (∀ w, (Extern.Rtype.elem? q.1).run P w = .ok (some q.2.2.1) w) ∧ ∀ p w, (Extern.ReflectliteValue.mk q.2.2.1 p Extern.ReflectliteValue.flagAddr).run P w = .ok (.agg #[hV q.2.2.1, .pointer (some p), .int .u64 q.2.2.2]) w) : XLaw P (1000000 + g) (xVElem tab) := by
  intro call hc o xs ho n0 C φ w h vals r h' ρ hρ hρf hρg ha hr
  obtain ⟨args, ats, heq, rfl⟩ := xo_ext hg ho
  unfold xVElem at hr
  split at hr <;> try (simp at hr; done)
  rename_i t i p f
  split at hr <;> try (simp at hr; done)
  rename_i f' te f2 hk
  split at hr <;> simp at hr
  rename_i hff; subst hff
  obtain ⟨rfl, rfl⟩ := hr
  obtain ⟨v, hv, hvt⟩ := ha.one
  obtain ⟨u, rfl, hu⟩ := hvt.val_inv
  obtain ⟨a, b, rfl, hφ, hcell⟩ := VT.cellref (off := 0) ha.wd hu
  obtain ⟨hA, h22, hparts, hel, hmk⟩ := hp _ (lookup_mem hk)
  rw [exec_ext hρf heq, args_list hv, hx]
  have hrun : (Extern.ReflectliteValue.method (Extern.ReflectliteValue.valueError "reflectlite.Value.Elem" 0) Extern.ReflectliteValue.elem #[.agg #[hV t, .pointer (some a), .int .u64 f]]).run P w = .ok (.agg #[hV te, .pointer (some ⟨b, p, none⟩), .int .u64 f2]) w := by
    show (do match ← Extern.ReflectliteValue.parts (.agg #[hV t, .pointer (some a), .int .u64 f]) with | none => Extern.ReflectliteValue.valueError "reflectlite.Value.Elem" 0 | some (t, a, fl) => Extern.ReflectliteValue.elem t a fl (fl % 32) : Sem Value).run P w = _
    simp only [Sem.run_bind, hparts, Result.andThen_ok, h22, Extern.ReflectliteValue.elem, show ((22 : Nat) != 20 && (22 : Nat) != 22) = false from rfl, Bool.false_eq_true, if_false, loadVar, run_isAggB hA, run_load, hcell, Sem.run_pure, hel, hmk]
  rw [hrun]
  exact FinH.same ha.wd ha.hr (VT.agg_mk (vs := [_, _, _]) (VTs.cons (.pure (.hdl _)) (VTs.cons (.ref _ _ _ hφ) (VTs.cons (.pure (.int _ _)) .nil)))) rfl

theorem FinH.unit {Bs v w'} (hf : FinH n0 C φ w h Bs (.tup []) v w' h') : FinH n0 C φ w h Bs (.tup []) (.tuple #[]) w' h' := by
  obtain ⟨C', φ', h1, h2, h3, h4, h5, h6, h7, h8, h9⟩ := hf
  refine ⟨C', φ', VT.tup_mk (vs := []) .nil, h2, h3, h4, h5, h6, ownP_share C' _ n0 (.tup []) _, ?_, ?_⟩
  · have e : blks (.tup []) (.tuple #[]) = [] := blks_share (.tup []) _
    rw [e]; simp
  · have e : blks (.tup []) (.tuple #[]) = [] := blks_share (.tup []) _
    rw [e]; simp

theorem law_vset {g : Nat} (hg : g < 1000000) {tab : List (Nat × Int × Int)} (hx : ∀ v u w, (callFunc g #[v, u]).run P w = ((Extern.ReflectliteValue.set #[v, u]).run P w).andThen fun v w' => .ok (.value v) w')
    (hp : ∀ q ∈ tab, isAggB P q.1 = some false ∧ sizeB P q.1 = some 1 ∧ (q.2.1.toNat / Extern.ReflectliteValue.flagAddr % 2 == 0) = false ∧ (∀ a w, (Extern.ReflectliteValue.parts (.agg #[hV q.1, .pointer (some a), .int .u64 q.2.1])).run P w = .ok (some (q.1, a, q.2.1.toNat)) w) ∧
      (∀ a w, (Extern.ReflectliteValue.parts (.agg #[hV q.1, .pointer (some a), .int .u64 q.2.2])).run P w = .ok (some (q.1, a, q.2.2.toNat)) w) ∧ ∀ w, (Extern.Rtype.directlyAssignable q.1 q.1).run P w = .ok true w) : XLaw P (1000000 + g) (xVSet tab) := by
  intro call hc o xs ho n0 C φ w h vals r h' ρ hρ hρf hρg ha hr
  obtain ⟨args, ats, heq, rfl⟩ := xo_ext hg ho
  unfold xVSet at hr
  split at hr <;> try (simp at hr; done)
  rename_i t i p f2 t' x f
  split at hr <;> try (simp at hr; done)
  rename_i g2 g1 hk
  split at hr <;> try (simp at hr; done)
  rename_i hcond
  obtain ⟨e1, e2, e3, hcl⟩ := hcond
  subst e1; subst e2; subst e3
  obtain ⟨v1, v2, hv, hvt, hvt2⟩ := ha.two
  obtain ⟨u1, rfl, hu1⟩ := hvt.val_inv
  obtain ⟨u2, rfl, hu2⟩ := hvt2.val_inv
  obtain ⟨b, rfl, hφ⟩ := hu1.ref_inv
  obtain ⟨b2, q, cv, rfl, a1, a2⟩ := hu2.imm_inv
  obtain ⟨hA, hS, hadr, hp2, hp1, hdir⟩ := hp _ (lookup_mem hk)
  have hcell := ha.wd _ _ _ (a1 0 x rfl).2
  have hxs : x.share = x.share1 := by
    have := (a1 0 x rfl).1
    cases x <;> first | rfl | simp [AV.leaf] at this
  have hargs : ArgsH n0 C φ w h [.ref i p, x.share] [.pointer (some ⟨b, p, none⟩), cv 0] := by
    refine ⟨ha.wd, ha.hr, ha.base, VTs.cons (.ref _ _ _ hφ) (VTs.cons (a2 0 x rfl).share .nil), ?_, ?_, ?_, ha.gl⟩
    · intro j y v hy hv
      match j, hy, hv with
      | 0, hy, hv => simp at hy hv; subst hy; subst hv; exact ownP_share C w n0 (.ref i p) _
      | 1, hy, hv => simp at hy hv; subst hy; subst hv; exact ownP_share C w n0 x _
    · have e1 : blks (.ref i p) (.pointer (some ⟨b, p, none⟩)) = [] := blks_share (.ref i p) _
      simp [blksL, blks_share, e1]
    · have e1 : blks (.ref i p) (.pointer (some ⟨b, p, none⟩)) = [] := blks_share (.ref i p) _
      simp [blksL, blks_share, e1]
  obtain ⟨p', x', hpx, w1, hst, hfin⟩ := sim_hst (P := P) (Bs := blksL [.agg [.hdl t, .ref i p, .int .u64 f2], .agg [.hdl t, .imm [x] 0, .int .u64 f]] (args.toList.map ρ)) hS hargs hr
  simp only [List.cons.injEq, and_true] at hpx
  obtain ⟨rfl, rfl⟩ := hpx
  have hstore : (storeVar t ⟨b, p, none⟩ (cv 0)).run P w = .ok () w1 := by
    simpa only [Instr.storeAt, Instr.sureAddr, Sem.run_bind, Sem.run_pure, Result.andThen_ok] using hst
  have hrun : (Extern.ReflectliteValue.set #[.agg #[hV t, .pointer (some ⟨b, p, none⟩), .int .u64 f2], .agg #[hV t, .pointer (some ⟨b2, q + 0, none⟩), .int .u64 f]]).run P w = .ok (.tuple #[]) w1 := by
    have hu : ∀ v x : Value, Extern.ReflectliteValue.set #[v, x] = (do
        let (some (dst, a, fl), some (src, b, _)) := (← Extern.ReflectliteValue.parts v, ← Extern.ReflectliteValue.parts x)
          | unsupported (.noEntry "extern/(internal/reflectlite.Value).Set.zeroValue")
        if fl / Extern.ReflectliteValue.flagAddr % 2 == 0 then unsupported (.noEntry "extern/(internal/reflectlite.Value).Set.unaddressable")
        let val ← loadVar src b
        if ← Extern.Rtype.directlyAssignable dst src then storeVar dst a val
        else if ← Extern.Rtype.implements dst src then
          if (← Extern.Rtype.kind src) == 20 then
            match val with
            | .nilIface => unsupported (.noEntry "extern/reflectlite: a nil value of one interface type handed on as a value of another")
            | _ => storeVar dst a val
          else storeVar dst a (.iface src val)
        else panicString ("reflectlite.Set: value of type " ++ (← Extern.Rtype.spelt src) ++ " is not assignable to type " ++ (← Extern.Rtype.spelt dst))
        pure (.tuple #[])) := fun _ _ => rfl
    rw [hu]
    simp only [Sem.run_bind, hp2, hp1, Result.andThen_ok, hadr, Bool.false_eq_true, if_false, Sem.run_pure, loadVar, run_isAggB hA, run_load, hcell, hdir, if_true, hstore]
  rw [exec_ext hρf heq, args_list hv, hx, hrun]
  have hr' : r = .tup [] := by
    simp only [hSt] at hr
    split at hr <;> try (simp at hr; done)
    split at hr <;> simp at hr
    exact hr.1.symm
  subst hr'
  exact hfin.unit

end
end Go.Vm
